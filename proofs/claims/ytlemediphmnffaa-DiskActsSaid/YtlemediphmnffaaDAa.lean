/- Part of a proof: what stands for the program, and its walk. No condition. -/
import Derived.Deep.DeepAppendWide
import Derived.Laws.Cells
import Derived.Laws.IdiomCopy
import Derived.MapKept
import Derived.RangeFuncRecord
import Derived.WalkKit
import Derived.WalkLawsBesides
import GoSem.Claim
set_option linter.unusedSimpArgs false
set_option linter.unusedVariables false
set_option linter.defProp false
set_option maxHeartbeats 1000000
namespace Go.Proofs.Ytlemediphmnffaa.VM
/-- A value: addresses name the machine's own blocks. 'rs', 'rp': a slice, a pointer over memory that nobody writes, its cells told. -/
inductive AV where
  | undef
  | bool (b : Bool)
  | int (k : IntKind) (n : Int)
  | str (s : List Nat)
  | ptr (b off : Nat)
  | nilp
  | sl (b off len cap sz : Nat)
  | nils
  | map (b : Nat)
  | nilm
  | fn (f : Nat) (caps : List AV)
  | nilf
  | agg (l : List AV)
  | tup (l : List AV)
  | rs (l : List AV) (len : Nat)
  | rp (l : List AV)
  | yld (b : Nat)
/-- A tree of numbered places. -/
inductive T (α : Type) where
  | e
  | n (l : T α) (x : Option α) (r : T α)
namespace T
variable {α : Type}
def get : T α → Nat → Option α
  | .e, _ => none
  | .n l x r, i => bif Nat.beq i 0 then x else bif Nat.beq (i % 2) 1 then l.get (i / 2) else r.get (i / 2 - 1)
def setF (v : α) : Nat → Nat → T α → T α
  | 0, _, t => t
  | f + 1, i, .e => bif Nat.beq i 0 then .n .e (some v) .e else bif Nat.beq (i % 2) 1 then .n (setF v f (i / 2) .e) none .e else .n .e none (setF v f (i / 2 - 1) .e)
  | f + 1, i, .n l x r => bif Nat.beq i 0 then .n l (some v) r else bif Nat.beq (i % 2) 1 then .n (setF v f (i / 2) l) x r else .n l x (setF v f (i / 2 - 1) r)
def set (t : T α) (i : Nat) (v : α) : T α := setF v (i + 1) i t
end T
/-- An operand, resolved. -/
inductive Opd where
  | t (t : Nat)
  | c (v : AV)
inductive EqC where
  | int | bool | str
inductive BI where
  | len (k : Nat) | append (size bytes : Nat) (e : TypeId) | copy (size : Nat) | max | min | clear | clearS (zero : List AV) | delete (c : EqC) | panic
/-- What a conversion does. -/
inductive Cv where
  | int (k : IntKind)
  | same
  | bytes (e : TypeId)
  | text
  | mark
/-- what kind of values are held against each other -/
inductive EqK where
  | bool | ptr | sl | map | fn | flat (l : List EqC)
inductive VOp where
  | bad
  | mov (x : Opd)
  | pick (c a b : Opd)
  | alloc (zero : List AV) (e : TypeId)
  | box (e : TypeId) (x : Opd)
  | build (zero : List AV) (parts : List (Nat × Nat × Opd))
  | bslice (zero : List AV) (e : TypeId) (len : Nat) (parts : List (Nat × Nat × Opd))
  | load (agg : Bool) (n : Nat) (a : Opd)
  | store (n : Nat) (a x : Opd)
  | nilck (x : Opd)
  | bin (op : BinOp) (x y : Opd)
  | eqs (k : EqK) (neg : Bool) (x y : Opd)
  | un (op : UnOp) (x : Opd)
  | conv (c : Cv) (x : Opd)
  | mkfn (f : Nat) (caps : List Opd)
  | mkmap
  | mkslice (zero : List AV) (e : TypeId) (bytes : Nat) (len cap : Opd)
  | slice (size : Nat) (x : Opd) (lo hi mx : Option Opd)
  | sliceA (size n : Nat) (x : Opd) (lo hi mx : Option Opd)
  | sliceS (x : Opd) (lo hi : Option Opd)
  | faddr (off : Nat) (x : Opd)
  | field (agg : Bool) (off n : Nat) (x : Opd)
  | iaddr (size : Nat) (arr : Option Nat) (x i : Opd)
  | index (agg : Bool) (size len : Nat) (x i : Opd)
  | indexS (x i : Opd)
  | lookup (c : EqC) (zero : AV) (ok : Bool) (x i : Opd)
  | mupd (c : EqC) (m k v : Opd)
  | extract (x : Opd) (i : Nat)
  | call (f : Nat) (args : List Opd)
  | callv (x : Opd) (args : List Opd)
  | bi (b : BI) (args : List Opd)
  | range (x : Opd)
  | next (x : Opd)
  | entry (x : Opd)
  | atom (k : Nat) (a x : Opd)
/-- An operation in its place: where it writes; the slot that decides whether it is carried out, and at which answer. -/
structure VO where
  dst : Option Nat
  guard : Option (Nat × Bool)
  op : VOp
inductive VCode where
  | bad
  | rangeFn (g : Opd) (ps : List Nat) (asg body : VCode)
  | rangeM (l : List VO) (it : Nat) (x : Opd) (out nx mr nxt pr : Nat) (as : List VO) (body : VCode)
  | skip
  | ops (l : List VO)
  | drawn (l : List VO) (loose : List (Nat × List Nat))
  | mixed (l : List VO) (loose : List (Nat × List Nat))
  | seq (a b : VCode)
  | cond (c : Opd) (a b : VCode)
  | block (id : Nat) (b : VCode)
  | loop (b : VCode)
  | exit (id : Nat)
  | ret
inductive VRes where
  | tmp (t : Nat)
  | cell (a : Nat) (agg : Bool) (n : Nat)
structure VFun where
  nargs : Nat
  res : List VRes
  body : VCode
inductive Ex where
  | normal
  | exit (id : Nat)
  | ret
/-- (kf: a cell with a map in it, that an iterator over its keys holds.) A loop over a function: its slots, where a round's arguments go, its codes; 0: ready, 1: busy, 2: done; how its last round was left. -/
structure LoopB where
  P : Program
  s : T AV
  ps : List Nat
  asg : VCode
  body : VCode
  state : Nat
  pend : Option Ex
inductive Blk where
  | cells (l : List AV) (e : TypeId) (ver : Nat)
  | map (es : List (AV × AV)) (ver : Nat)
  | dead
  | loop (r : LoopB)
  | kf (m : Nat)
structure Heap where
  next : Nat
  t : T Blk
def Heap.get (h : Heap) (b : Nat) : Option Blk := h.t.get b
def Heap.put (h : Heap) (b : Nat) (o : Blk) : Heap := ⟨h.next, h.t.set b o⟩
/-- a new block, under this name -/
def Heap.mk' (h : Heap) (b : Nat) (o : Blk) : Heap := ⟨max h.next (b + 1), h.t.set b o⟩
/-- from here on the numbers name no functions, but calls of a loop's yield -/
def YB : Nat := 1000000
/-- a call of the yield of the loop in block b -/
def yf (b : Nat) : Nat := YB + b
structure St where
  s : T AV
  h : Heap
def St.get (st : St) (t : Nat) : AV := (st.s.get t).getD .undef
def St.put (st : St) (d : Option Nat) (v : AV) : St := match d with
  | some d => ⟨st.s.set d v, st.h⟩
  | none => st
def Opd.eval (st : St) : Opd → AV
  | .t n => st.get n
  | .c v => v
def lsets (vs : List AV) (l : List AV) (i : Nat) : List AV := l.take i ++ vs ++ l.drop (i + vs.length)
/-- n of them from place i on, if they are there -/
def cut (l : List AV) (i n : Nat) : Option (List AV) := let r := (l.drop i).take n; bif Nat.beq r.length n then some r else none
def AV.cells : AV → Option (List AV)
  | .undef => none
  | .agg l => some l
  | v => some [v]
def AV.byte : AV → Option Nat
  | .int .u8 c => if 0 ≤ c ∧ c < 256 then some c.toNat else none
  | _ => none
/-- one cell's value -/
def AV.one : AV → Bool
  | .agg _ | .tup _ | .undef => false
  | _ => true
def part (agg : Bool) (l : List AV) (off n : Nat) : Option AV :=
  match cut l off n with
  | none => none
  | some r => if agg then some (.agg r) else match r with
    | [v] => some v
    | _ => none
def fill (cells : List AV) : List (Nat × Nat × AV) → Option (List AV)
  | [] => some cells
  | (off, n, v) :: rest => match v.cells with
    | some c => bif Nat.beq c.length n && Nat.ble (off + n) cells.length then fill (lsets c cells off) rest else none
    | none => none
def sameCell : AV → AV → Option Bool
  | .int k a, .int k' b => if k = k' then some (decide (a = b)) else none
  | .bool a, .bool b => some (a == b)
  | .str a, .str b => some (a == b)
  | _, _ => none
def sameK : EqC → AV → AV → Option Bool
  | .int, .int k a, .int k' b => if k = k' then some (decide (a = b)) else none
  | .bool, .bool a, .bool b => some (a == b)
  | .str, .str a, .str b => some (a == b)
  | _, _, _ => none
def sameCells : List EqC → List AV → List AV → Option Bool
  | [], [], [] => some true
  | c :: cs, a :: x, b :: y => match sameK c a b with
    | some true => sameCells cs x y
    | r => r
  | _, _, _ => none
def strLess : List Nat → List Nat → Bool
  | _, [] => false
  | [], _ :: _ => true
  | a :: x, b :: y => Nat.blt a b || (Nat.beq a b && strLess x y)
def bitsOf (op : BinOp) (k : IntKind) (x y : Int) : Int :=
  let a := (x % 2 ^ k.bits).toNat
  let b := (y % 2 ^ k.bits).toNat
  k.wrap (match op with
    | .and => Nat.land a b
    | .or => Nat.lor a b
    | .xor => Nat.xor a b
    | _ => Nat.land a (2 ^ k.bits - 1 - b) : Nat)
def binInt (op : BinOp) (k : IntKind) (x y : Int) : Option AV :=
  match op with
  | .add => some (.int k (k.wrap (x + y)))
  | .sub => some (.int k (k.wrap (x - y)))
  | .mul => some (.int k (k.wrap (x * y)))
  | .quo => if y = 0 then none else some (.int k (k.wrap (x.tdiv y)))
  | .rem => if y = 0 then none else some (.int k (x.tmod y))
  | .and | .or | .xor | .andNot => some (.int k (bitsOf op k x y))
  | .eql => some (.bool (decide (x = y)))
  | .neq => some (.bool (!decide (x = y)))
  | .lss => some (.bool (decide (x < y)))
  | .leq => some (.bool (decide (x ≤ y)))
  | .gtr => some (.bool (decide (y < x)))
  | .geq => some (.bool (decide (y ≤ x)))
  | _ => none
def binStr (op : BinOp) (x y : List Nat) : Option AV :=
  match op with
  | .add => if x.length + y.length < 140737488355328 then some (.str (x ++ y)) else none
  | .eql => some (.bool (x == y))
  | .neq => some (.bool !(x == y))
  | .lss => some (.bool (strLess x y))
  | .leq => some (.bool (strLess x y || x == y))
  | .gtr => some (.bool !(strLess x y || x == y))
  | .geq => some (.bool !(strLess x y))
  | _ => none
def bin (op : BinOp) : AV → AV → Option AV
  | .int k a, .int k' b => match op with
    | .shl => if b < 0 then none else some (.int k (k.wrap (a * 2 ^ min b.toNat k.bits)))
    | .shr => if b < 0 then none else some (.int k (a.fdiv (2 ^ min b.toNat k.bits)))
    | op => if k = k' then binInt op k a b else none
  | .str a, .str b => binStr op a b
  | _, _ => none
/-- Are they the same? Of values that Go compares without memory. -/
def eqv : EqK → AV → AV → Option Bool
  | .bool, .bool a, .bool b => some (a == b)
  | .flat l, .agg a, .agg b => if a.length = l.length ∧ b.length = l.length then sameCells l a b else none
  | .ptr, .nilp, .nilp => some true
  | .ptr, .nilp, .ptr .. | .ptr, .ptr .., .nilp | .ptr, .nilp, .rp _ | .ptr, .rp _, .nilp => some false
  | .sl, .nils, .nils => some true
  | .sl, .nils, .sl .. | .sl, .sl .., .nils | .sl, .nils, .rs .. | .sl, .rs .., .nils => some false
  | .map, .nilm, .nilm => some true
  | .map, .nilm, .map _ | .map, .map _, .nilm => some false
  | .fn, .nilf, .nilf => some true
  | .fn, .nilf, .fn .. | .fn, .fn .., .nilf => some false
  | _, _, _ => none
def un (op : UnOp) : AV → Option AV
  | .int k n => match op with
    | .neg => some (.int k (k.wrap (0 - n)))
    | .xor => some (.int k (bitsOf .xor k (if k.signed then -1 else k.max) n))
    | _ => none
  | .bool b => match op with
    | .not => some (.bool !b)
    | _ => none
  | _ => none
def natOf (x : AV) (y : Nat) : Option Nat := match x with
  | .int _ i => if 0 ≤ i ∧ i ≤ y then some i.toNat else none
  | _ => none
def bounds (len cap : Nat) (lo hi mx : Option AV) : Option (Nat × Nat × Nat) :=
  match (match mx with | some v => natOf v cap | none => some cap) with
  | none => none
  | some m =>
    match (match hi with | some v => natOf v m | none => if mx.isSome then none else some len) with
    | none => none
    | some h =>
      match (match lo with | some v => natOf v h | none => some 0) with
      | none => none
      | some l => some (l, h, m)
def sliceV (size : Nat) (x : AV) (lo hi mx : Option AV) : Option AV :=
  match x with
  | .sl b off len cap sz => bif Nat.beq sz size then (match bounds len cap lo hi mx with
    | some (l, h, m) => some (.sl b (off + l * size) (h - l) (m - l) sz)
    | none => none) else none
  | .nils => match bounds 0 0 lo hi mx with
    | some _ => some .nils
    | none => none
  | .rs c len => match (if mx.isSome then none else bounds len len lo hi none) with
    | some (l, h, _) => some (.rs ((c.drop (l * size)).take ((h - l) * size)) (h - l))
    | none => none
  | _ => none
def sliceA (h : Heap) (size n : Nat) (x : AV) (lo hi mx : Option AV) : Option AV :=
  match x with
  | .ptr b off => match h.get b with
    | some (.cells l _ _) => if off + n * size ≤ l.length then (match bounds n n lo hi mx with
      | some (l, h, m) => some (.sl b (off + l * size) (h - l) (m - l) size)
      | none => none) else none
    | _ => none
  | _ => none
def sliceS (x : AV) (lo hi : Option AV) : Option AV :=
  match x with
  | .str s => match bounds s.length s.length lo hi none with
    | some (l, h, _) => some (.str ((s.drop l).take (h - l)))
    | none => none
  | _ => none
def findE (c : EqC) (k : AV) : List (AV × AV) → Option (Option AV)
  | [] => some none
  | e :: es => match sameK c k e.1 with
    | some true => some (some e.2)
    | some false => findE c k es
    | none => none
def updE (c : EqC) (k v : AV) : List (AV × AV) → List (AV × AV)
  | [] => [(k, v)]
  | e :: es => match sameK c k e.1 with
    | some true => (k, v) :: es
    | _ => e :: updE c k v es
def delE (c : EqC) (k : AV) : List (AV × AV) → List (AV × AV)
  | [] => []
  | e :: es => match sameK c k e.1 with
    | some true => es
    | _ => e :: delE c k es
def max2 : AV → AV → Option AV
  | .int k x, .int _ y => some (.int k (if y > x then y else x))
  | _, _ => none
def min2 : AV → AV → Option AV
  | .int k x, .int _ y => some (.int k (if y < x then y else x))
  | _, _ => none
def foldO (f : AV → AV → Option AV) : AV → List AV → Option AV
  | x, [] => some x
  | x, y :: l => match f x y with
    | some z => foldO f z l
    | none => none
/-- the cells of a slice or text, n elements of a size -/
def cellsOf (h : Heap) (size n : Nat) : AV → Option (List AV)
  | .sl b off len _ _ => if n ≤ len then (match h.get b with
    | some (.cells l _ _) => cut l off (n * size)
    | _ => none) else none
  | .nils => if n = 0 then some [] else none
  | .rs c _ => cut c 0 (n * size)
  | .str s => some ((s.take n).map fun c : Nat => .int .u8 c)
  | _ => none
def lenV : AV → Option Nat
  | .sl _ _ n _ _ => some n
  | .nils => some 0
  | .rs _ n => some n
  | .str s => some s.length
  | _ => none
/-- the most bytes that a row is let grow to -/
abbrev most : Nat := 140737488355328
/-- the most bytes that an append may come to -/
abbrev most2 : Nat := 220000000000000
def writeAt (h : Heap) (b off : Nat) (vs : List AV) : Option Heap := match h.get b with
  | some (.cells l e ver) => bif Nat.ble (off + vs.length) l.length && vs.all AV.one then some (h.put b (.cells (lsets vs l off) e (ver + 1))) else none
  | _ => none
def appendV (h : Heap) (size bytes : Nat) (e : TypeId) (s x : AV) : Option (AV × Heap) :=
  match lenV x with
  | none => none
  | some n => match cellsOf h size n x with
    | none => none
    | some new => if new.length = n * size ∧ new.all AV.one = true then match s with
      | .nils => if n = 0 then some (.nils, h) else if n * bytes ≤ most2 then some (.sl h.next 0 n n size, h.mk' h.next (.cells new e 0)) else none
      | .sl b off len cap sz => bif Nat.beq sz size then (
        if len + n ≤ cap then
          match writeAt h b (off + len * size) new with
          | some h' => some (.sl b off (len + n) cap sz, h')
          | none => none
        else if (len + n) * bytes ≤ most2 then
          match cellsOf h size len s with
          | some old => some (.sl h.next 0 (len + n) (len + n) sz, (h.put b .dead).mk' h.next (.cells (old ++ new) e 0))
          | none => none
        else none) else none
      | _ => none
      else none
def copyV (h : Heap) (size : Nat) (d x : AV) : Option (AV × Heap) :=
  match lenV x, lenV d with
  | some n, some m => match cellsOf h size (min n m) x with
    | none => none
    | some new => if new.length = min n m * size then match d with
      | .nils => some (.int .i64 0, h)
      | .sl b off _ _ _ => match writeAt h b off new with
        | some h' => some (.int .i64 (min n m : Nat), h')
        | none => none
      | _ => none
      else none
  | _, _ => none
/-- What an operation comes to, that calls no function. -/
inductive Out where
  | val (v : AV) (h : Heap)
  | fail
  | enter (f : Nat) (args : List AV)
def valO (h : Heap) : Option AV → Out
  | some v => .val v h
  | none => .fail
def valH : Option (AV × Heap) → Out
  | some (v, h) => .val v h
  | none => .fail
/-- the library's atomic operations on a number: 0 adds, 1 reads, 2 writes -/
def atomV (h : Heap) (k : Nat) (a x : AV) : Out := match a with
  | .ptr b off => match h.get b with
    | some (.cells l _ _) => match part false l off 1 with
      | some (.int .i64 n) => match k, x with
        | 0, .int .i64 d => (match writeAt h b off [.int .i64 (IntKind.i64.wrap (n + d))] with
          | some h' => .val (.int .i64 (IntKind.i64.wrap (n + d))) h'
          | none => .fail)
        | 1, _ => .val (.int .i64 n) h
        | 2, .int .i64 d => (match writeAt h b off [.int .i64 d] with
          | some h' => .val (.tup []) h'
          | none => .fail)
        | _, _ => .fail
      | _ => .fail
    | _ => .fail
  | _ => .fail
/-- 'nm': the name of a block that the operation makes -/
def vop (st : St) (nm : Nat) : VOp → Out
  | .bad | .range _ | .next _ | .entry _ => .fail
  | .atom k a x => atomV st.h k (a.eval st) (x.eval st)
  | .mov x => .val (x.eval st) st.h
  | .pick c a b => match c.eval st with
    | .bool true => .val (a.eval st) st.h
    | .bool false => .val (b.eval st) st.h
    | _ => .fail
  | .alloc zero e => .val (.ptr nm 0) (st.h.mk' nm (.cells zero e 0))
  | .box e x => match (x.eval st).cells with
    | some c => .val (.ptr nm 0) (st.h.mk' nm (.cells c e 0))
    | none => .fail
  | .build zero parts => valO st.h ((fill zero (parts.map fun (o, n, x) => (o, n, x.eval st))).map .agg)
  | .bslice zero e len parts => match fill ((List.replicate len zero).flatten) (parts.map fun (o, n, x) => (o, n, x.eval st)) with
    | some cs => .val (.sl nm 0 len len zero.length) (st.h.mk' nm (.cells cs e 0))
    | none => .fail
  | .load agg n a => match a.eval st with
    | .ptr b off => match st.h.get b with
      | some (.cells l _ _) => valO st.h (part agg l off n)
      | _ => .fail
    | .rp l => valO st.h (part agg l 0 n)
    | _ => .fail
  | .store n a x => match a.eval st with
    | .ptr b off => match (x.eval st).cells with
      | some c => bif Nat.beq c.length n then (match writeAt st.h b off c with
        | some h => .val .undef h
        | none => .fail) else .fail
      | none => .fail
    | _ => .fail
  | .nilck x => match x.eval st with
    | .nilp | .nilf | .undef => .fail
    | v => .val v st.h
  | .bin op x y => valO st.h (bin op (x.eval st) (y.eval st))
  | .eqs k neg x y => valO st.h ((eqv k (x.eval st) (y.eval st)).map fun b => .bool (b != neg))
  | .un op x => valO st.h (un op (x.eval st))
  | .conv c x => match c, x.eval st with
    | .int k, .int _ n => .val (.int k (k.wrap n)) st.h
    | .same, .str s => .val (.str s) st.h
    | .bytes e, .str s => .val (.sl nm 0 s.length s.length 1) (st.h.mk' nm (.cells (s.map fun c : Nat => .int .u8 c) e 0))
    | .text, .str _ => .fail
    | .text, v => match lenV v with
      | some n => match cellsOf st.h 1 n v with
        | some cs => valO st.h ((cs.mapM AV.byte).map .str)
        | none => .fail
      | none => .fail
    | _, _ => .fail
  | .mkfn f caps => .val (.fn f (caps.map (·.eval st))) st.h
  | .mkmap => .val (.map nm) (st.h.mk' nm (.map [] 0))
  | .mkslice zero e bytes len cap => match len.eval st, cap.eval st with
    | .int .i64 l, .int .i64 c => if 0 ≤ l ∧ l ≤ c ∧ c.toNat * bytes ≤ most ∧ c.toNat ≤ most then
        .val (.sl nm 0 l.toNat c.toNat zero.length) (st.h.mk' nm (.cells ((List.replicate c.toNat zero).flatten) e 0)) else .fail
    | _, _ => .fail
  | .sliceA size n x lo hi mx => valO st.h (sliceA st.h size n (x.eval st) (lo.map (·.eval st)) (hi.map (·.eval st)) (mx.map (·.eval st)))
  | .slice size x lo hi mx => valO st.h (sliceV size (x.eval st) (lo.map (·.eval st)) (hi.map (·.eval st)) (mx.map (·.eval st)))
  | .sliceS x lo hi => valO st.h (sliceS (x.eval st) (lo.map (·.eval st)) (hi.map (·.eval st)))
  | .faddr off x => match x.eval st with
    | .ptr b o => .val (.ptr b (o + off)) st.h
    | .rp l => .val (.rp (l.drop off)) st.h
    | _ => .fail
  | .field agg off n x => match x.eval st with
    | .agg l => valO st.h (part agg l off n)
    | _ => .fail
  | .iaddr size arr x i => match i.eval st with
    | .int _ i => match x.eval st, arr with
      | .ptr b o, some len => if 0 ≤ i ∧ i < len then .val (.ptr b (o + i.toNat * size)) st.h else .fail
      | .sl b o len _ sz, none => if 0 ≤ i ∧ i < len ∧ sz = size then .val (.ptr b (o + i.toNat * size)) st.h else .fail
      | .rs l len, none => if 0 ≤ i ∧ i < len then .val (.rp (l.drop (i.toNat * size))) st.h else .fail
      | _, _ => .fail
    | _ => .fail
  | .index agg size len x i => match i.eval st with
    | .int _ i => match x.eval st with
      | .agg l => if 0 ≤ i ∧ i < len then valO st.h (part agg l (i.toNat * size) size) else .fail
      | _ => .fail
    | _ => .fail
  | .indexS x i => match i.eval st with
    | .int _ i => match x.eval st with
      | .str s => if 0 ≤ i then valO st.h ((s[i.toNat]?).map fun c : Nat => .int .u8 c) else .fail
      | _ => .fail
    | _ => .fail
  | .lookup c zero ok x i =>
    match (match x.eval st with
      | .nilm => some none
      | .map b => (match st.h.get b with | some (.map es _) => findE c (i.eval st) es | _ => none)
      | _ => none) with
    | none => .fail
    | some r => let v := r.getD zero
      .val (if ok then .tup [v, .bool r.isSome] else v) st.h
  | .mupd c m k v => match m.eval st with
    | .map b => match st.h.get b with
      | some (.map es ver) => match findE c (k.eval st) es with
        | some _ => .val .undef (st.h.put b (.map (updE c (k.eval st) (v.eval st) es) (ver + 1)))
        | none => .fail
      | _ => .fail
    | _ => .fail
  | .extract x i => match x.eval st with
    | .tup l => valO st.h l[i]?
    | _ => .fail
  | .call f args => .enter f (args.map (·.eval st))
  | .callv x args => match x.eval st with
    | .fn f caps => .enter f (args.map (·.eval st) ++ caps)
    | .yld b => .enter (yf b) (args.map (·.eval st))
    | _ => .fail
  | .bi b args => match b, args.map (·.eval st) with
    | .len k, [x] => match k, x with
      | 0, .str s => .val (.int .i64 s.length) st.h
      | 1, .sl _ _ n _ _ => .val (.int .i64 n) st.h
      | 1, .nils => .val (.int .i64 0) st.h
      | 1, .rs _ n => .val (.int .i64 n) st.h
      | 2, .map b => (match st.h.get b with | some (.map es _) => .val (.int .i64 es.length) st.h | _ => .fail)
      | 2, .nilm => .val (.int .i64 0) st.h
      | _, _ => .fail
    | .append size bytes e, [s, x] => valH (appendV st.h size bytes e s x)
    | .copy size, [d, x] => valH (copyV st.h size d x)
    | .max, x :: l => valO st.h (foldO max2 x l)
    | .min, x :: l => valO st.h (foldO min2 x l)
    | .clear, [x] => match x with
      | .nilm => .val (.tup []) st.h
      | .map b => (match st.h.get b with | some (.map _ ver) => .val (.tup []) (st.h.put b (.map [] (ver + 1))) | _ => .fail)
      | _ => .fail
    | .clearS zero, [x] => match x with
      | .nils => .val (.tup []) st.h
      | .sl b off len _ _ => bif Nat.beq len 0 then .val (.tup []) st.h else (match writeAt st.h b off (List.replicate len zero).flatten with
        | some h => .val (.tup []) h
        | none => .fail)
      | _ => .fail
    | .delete c, [m, k] => match m with
      | .map b => (match st.h.get b with
        | some (.map es ver) => (match findE c k es with | some _ => .val (.tup []) (st.h.put b (.map (delE c k es) (ver + 1))) | none => .fail)
        | _ => .fail)
      | _ => .fail
    | _, _ => .fail
def wanted (st : St) : Option (Nat × Bool) → Bool
  | none => true
  | some (t, want) => match st.get t with
    | .bool b => b == want
    | _ => false
/-- One operation; 'call' carries out a function. -/
def vdo (call : Nat → List AV → Heap → Option (AV × Heap)) (st : St) (nm : Nat) (o : VO) : Option St :=
  bif wanted st o.guard then
    match vop st nm o.op with
    | .val v h => some (St.put ⟨st.s, h⟩ o.dst v)
    | .fail => none
    | .enter f args => match call f args st.h with
      | some (v, h) => some (St.put ⟨st.s, h⟩ o.dst v)
      | none => none
  else some (st.put o.dst .undef)
def vops (call : Nat → List AV → Heap → Option (AV × Heap)) : List VO → St → Option St
  | [], st => some st
  | o :: l, st => match vdo call st st.h.next o with
    | some st' => vops call l st'
    | none => none
mutual
def AV.eqb : AV → AV → Bool
  | .undef, .undef => true
  | .bool a, .bool b => a == b
  | .int k n, .int k' m => decide (k = k') && decide (n = m)
  | .str a, .str b => decide (a = b)
  | .ptr a b, .ptr c d => Nat.beq a c && Nat.beq b d
  | .nilp, .nilp => true
  | .sl a b c d e, .sl a' b' c' d' e' => Nat.beq a a' && Nat.beq b b' && Nat.beq c c' && Nat.beq d d' && Nat.beq e e'
  | .nils, .nils => true
  | .map a, .map b => Nat.beq a b
  | .nilm, .nilm => true
  | .fn f l, .fn g k => Nat.beq f g && AV.eqbs l k
  | .nilf, .nilf => true
  | .agg l, .agg k => AV.eqbs l k
  | .tup l, .tup k => AV.eqbs l k
  | .rs l n, .rs k m => Nat.beq n m && AV.eqbs l k
  | .rp l, .rp k => AV.eqbs l k
  | .yld a, .yld b => Nat.beq a b
  | _, _ => false
def AV.eqbs : List AV → List AV → Bool
  | [], [] => true
  | x :: l, y :: k => AV.eqb x y && AV.eqbs l k
  | _, _ => false
end
def Opd.tmp : Opd → List Nat
  | .t n => [n]
  | .c _ => []
def optTmp : Option Opd → List Nat
  | some x => x.tmp
  | none => []
def partTmps (l : List (Nat × Nat × Opd)) : List Nat := (l.map fun p => p.2.2.tmp).flatten
def opdTmps (l : List Opd) : List Nat := (l.map Opd.tmp).flatten
/-- the slots that an operation looks at -/
def VOp.tmps : VOp → List Nat
  | .bad | .alloc .. | .mkmap => []
  | .mov x | .box _ x | .load _ _ x | .nilck x | .un _ x | .conv _ x | .faddr _ x | .field _ _ _ x | .extract x _ | .range x | .next x | .entry x => x.tmp
  | .pick a b c => a.tmp ++ b.tmp ++ c.tmp
  | .build _ ps | .bslice _ _ _ ps => partTmps ps
  | .store _ a x | .atom _ a x | .bin _ a x | .eqs _ _ a x | .iaddr _ _ a x | .index _ _ _ a x | .indexS a x | .lookup _ _ _ a x | .mkslice _ _ _ a x => a.tmp ++ x.tmp
  | .mkfn _ l | .call _ l | .bi _ l => opdTmps l
  | .callv x l => x.tmp ++ opdTmps l
  | .slice _ x lo hi mx | .sliceA _ _ x lo hi mx => x.tmp ++ optTmp lo ++ optTmp hi ++ optTmp mx
  | .sliceS x lo hi => x.tmp ++ optTmp lo ++ optTmp hi
  | .mupd _ m k v => m.tmp ++ k.tmp ++ v.tmp
def VO.looks (o : VO) : List Nat := (match o.guard with | some g => [g.1] | none => []) ++ o.op.tmps
/-- 0: slots alone; 1: looks at memory; 2: the rest -/
def VOp.kind : VOp → Nat
  | .load .. | .lookup .. | .sliceA .. => 1
  | .conv c _ => match c with
    | .bytes _ => 2
    | .text | .mark => 1
    | _ => 0
  | .bi b _ => match b with
    | .len _ => 1
    | .max | .min => 0
    | _ => 2
  | .bad | .range _ | .next _ | .entry _ | .atom .. | .alloc .. | .box .. | .bslice .. | .store .. | .mkmap | .mkslice .. | .mupd .. | .call .. | .callv .. => 2
  | _ => 0
def VO.acts (o : VO) : Bool := Nat.beq o.op.kind 2
def vtrace (call : Nat → List AV → Heap → Option (AV × Heap)) : List VO → St → Option (List St)
  | [], st => some [st]
  | o :: l, st => match vdo call st st.h.next o with
    | some st' => (vtrace call l st').map (st :: ·)
    | none => none
/-- a look at memory that has no place in the order: does it see the same at each of these? -/
def looseOk (call : Nat → List AV → Heap → Option (AV × Heap)) (l : List VO) (tr : List St) (loose : List (Nat × List Nat)) : Bool :=
  loose.all fun p => p.2.all fun k => match l[p.1]?, tr[p.1]?, tr[k]?, tr[p.1 + 1]? with
    | some o, some si, some sk, some sj => (match vdo call ⟨si.s, sk.h⟩ sk.h.next o with
      | some s' => (match o.dst with
        | some d => AV.eqb (s'.get d) (sj.get d)
        | none => true)
      | none => false)
    | _, _, _, _ => false
/-- a new block, its content out of slots alone -/
def VOp.fresh : VOp → Bool
  | .alloc .. | .box .. | .bslice .. | .mkslice .. | .mkmap => true
  | _ => false
/-- the name of a new block at a place of a region -/
def nameAt (base i : Nat) (o : VO) (h : Heap) : Nat := bif o.op.fresh then base + i else h.next
/-- names for the new blocks of a region, ahead of it -/
def reserve (base : Nat) : List VO → Nat → Heap → Heap
  | [], _, h => h
  | o :: l, i, h => reserve base l (i + 1) (bif o.op.fresh then h.mk' (base + i) .dead else h)
def mtrace (call : Nat → List AV → Heap → Option (AV × Heap)) (base : Nat) : List VO → Nat → St → Option (List St)
  | [], _, st => some [st]
  | o :: l, i, st => match vdo call st (nameAt base i o st.h) o with
    | some st' => (mtrace call base l (i + 1) st').map (st :: ·)
    | none => none
def resOf (st : St) : VRes → Option AV
  | .tmp t => some (st.get t)
  | .cell a agg n => match st.get a with
    | .ptr b off => match st.h.get b with
      | some (.cells l _ _) => part agg l off n
      | _ => none
    | _ => none
def results (st : St) (l : List VRes) : Option AV :=
  match l.mapM (resOf st) with
  | some [v] => some v
  | some vs => some (.tup vs)
  | none => none
def argsT : List AV → Nat → T AV → T AV
  | [], _, t => t
  | v :: l, i, t => argsT l (i + 1) (t.set i v)
def vstep (call : Nat → List AV → Heap → Option (AV × Heap)) (rec : VCode → St → Option (Ex × St)) : VCode → St → Option (Ex × St)
  | .bad, _ => none
  | .rangeFn .., _ => none
  | .rangeM .., _ => none
  | .skip, st => some (.normal, st)
  | .ops l, st => match vops call l st with
    | some st' => some (.normal, st')
    | none => none
  | .drawn l loose, st => match vtrace call l st with
    | some tr => bif looseOk call l tr loose then (tr.getLast?).map (fun st' => (.normal, st')) else none
    | none => none
  | .mixed l loose, st => match mtrace call st.h.next l 0 ⟨st.s, reserve st.h.next l 0 st.h⟩ with
    | some tr => bif looseOk call l tr loose then (tr.getLast?).map (fun st' => (.normal, st')) else none
    | none => none
  | .seq a b, st => match rec a st with
    | some (.normal, st') => rec b st'
    | r => r
  | .cond c a b, st => match c.eval st with
    | .bool true => rec a st
    | .bool false => rec b st
    | _ => none
  | .block id b, st => match rec b st with
    | some (.exit i, st') => bif Nat.beq i id then some (.normal, st') else some (.exit i, st')
    | r => r
  | .loop b, st => match rec b st with
    | some (.normal, st') => rec (.loop b) st'
    | r => r
  | .exit id, st => some (.exit id, st)
  | .ret, st => some (.ret, st)
/-- 'X': functions that are told otherwise. -/
abbrev Told := Nat → List AV → Heap → Option (AV × Heap)
mutual
def vexec (F : Nat → Option VFun) (X : Told) : Nat → VCode → St → Option (Ex × St)
  | 0, _, _ => none
  | n + 1, c, st => vstep (vcall F X n) (vexec F X n) c st
def vcall (F : Nat → Option VFun) (X : Told) : Nat → Nat → List AV → Heap → Option (AV × Heap)
  | 0, _, _, _ => none
  | n + 1, f, args, h => match X f args h with
    | some r => some r
    | none => match F f with
      | none => none
      | some fn => bif Nat.beq args.length fn.nargs then
          match vexec F X n fn.body ⟨argsT args 0 .e, h⟩ with
          | some (.normal, st) | some (.ret, st) => (results st fn.res).map fun v => (v, st.h)
          | _ => none
        else none
end
end Go.Proofs.Ytlemediphmnffaa.VM
namespace Go.Proofs.Ytlemediphmnffaa.VM
def avCell : Value → Option AV
  | .bool b => some (.bool b)
  | .int k n => some (.int k n)
  | .string s => some (.str (s.data.toList.map fun c => c.toNat))
  | .pointer none => some .nilp
  | .slice none 0 0 => some .nils
  | .map none => some .nilm
  | .nilFunc => some .nilf
  | _ => none
def avOf : Value → Option AV
  | .agg cs => (cs.toList.mapM avCell).map .agg
  | v => avCell v
def cOpd : Operand → Option Opd
  | .tmp t => some (.t t)
  | .const v => (avOf v).map .c
  | .func f => if f < YB then some (.c (.fn f [])) else none
  | .global _ => none
def cOpds (l : List Operand) : Option (List Opd) := l.mapM cOpd
section
variable (P : Program)
def zeroC (t : TypeId) : Option (List AV) := match P.info? t with
  | some i => match i.zero with
    | some v => match (avOf v).bind AV.cells with
      | some l => if l.length = i.size ∧ v.cells.size = i.size then some l else none
      | none => none
    | none => none
  | none => none
def isAggB (t : TypeId) : Bool := match P.underlying t with
  | some (.struct _) | some (.array _ _) => true
  | _ => false
def has (t : TypeId) : Bool := (P.info? t).isSome && (P.underlying t).isSome
/-- a type whose '==' goes cell by cell: its cells' kinds -/
def eqFs (rec : TypeId → Option (List EqC)) : List Field → Nat → Option (List EqC)
  | [], _ => some []
  | f :: fs, n => if f.name = "_" ∨ f.offset ≠ n ∨ has P f.type = false then none else match rec f.type with
    | some ks => if P.cellsOf f.type = ks.length then (eqFs rec fs (n + ks.length)).map (ks ++ ·) else none
    | none => none
def eqFlat : Nat → TypeId → Option (List EqC)
  | 0, _ => none
  | d + 1, t => match P.underlying t with
    | some (.int _) => some [.int]
    | some .bool => some [.bool]
    | some .string => some [.str]
    | some (.struct fs) => if P.stoodInHeld t = true then none else eqFs P (eqFlat d) fs.toList 0
    | _ => none
def keyC (t : TypeId) : Option EqC := match P.underlying t with
  | some (.int _) => some .int
  | some .bool => some .bool
  | some .string => some .str
  | _ => none
def cParts (place : Nat → Option (Nat × Nat)) (ps : List (Nat × Operand)) : Option (List (Nat × Nat × Opd)) :=
  ps.mapM fun (i, x) => match place i, cOpd x with
    | some (o, n), some y => some (o, n, y)
    | _, _ => none
def optO (o : Option Operand) : Option (Option Opd) := match o with
  | none => some none
  | some x => (cOpd x).map some
/-- which of the library's atomic operations? -/
def atomOf (fn : Func) : Option Nat :=
  if fn.body.isNone = true ∧ (Extern.findNext fn).isNone = true ∧ fn.name ≠ "runtime.NumGoroutine" then
    (if fn.name = "sync/atomic.AddInt64" then some 0 else if fn.name = "sync/atomic.LoadInt64" then some 1 else if fn.name = "sync/atomic.StoreInt64" then some 2 else none)
  else none
def cCall (c : Call) : Option VOp :=
  match cOpds c.args.toList with
  | none => none
  | some args => match c.callee with
    | .value (.func f) => match P.funcs[f]? with
      | some fn => if fn.body.isSome ∧ fn.name ≠ "runtime.NumGoroutine" ∧ f < YB then some (.call f args) else (match atomOf fn, args with
        | some 0, [a, x] => some (.atom 0 a x)
        | some 1, [a] => some (.atom 1 a a)
        | some 2, [a, x] => some (.atom 2 a x)
        | _, _ => none)
      | none => none
    | .value (.tmp t) => some (.callv (.t t) args)
    | .builtin b => match b, args with
      | .len, [x] => match c.argTypes[0]? with
        | some t => match P.underlying t with
          | some .string => some (.bi (.len 0) [x])
          | some (.slice _) => some (.bi (.len 1) [x])
          | some (.map _ _) => some (.bi (.len 2) [x])
          | _ => none
        | none => none
      | .append, [s, x] => match c.argTypes[0]?, c.argTypes[1]? with
        | some t, some u => match P.underlying t, P.underlying u with
          | some (.slice e), some (.slice _) | some (.slice e), some .string => if has P e = true ∧ (0 < P.bytesOf e ∧ P.bytesOf e ≤ 1000000) ∧ (zeroC P e).isSome = true ∧ c.argTypes.size = 2 then some (.bi (.append (P.cellsOf e) (P.bytesOf e) e) [s, x]) else none
          | _, _ => none
        | _, _ => none
      | .copy, [d, s] => match c.argTypes[0]? with
        | some t => match P.underlying t with
          | some (.slice e) => if has P e then some (.bi (.copy (P.cellsOf e)) [d, s]) else none
          | _ => none
        | none => none
      | .max, l => some (.bi .max l)
      | .min, l => some (.bi .min l)
      | .clear, [x] => match c.argTypes[0]? with
        | some t => match P.underlying t with
          | some (.map _ _) => some (.bi .clear [x])
          | some (.slice e) => match zeroC P e with
            | some z => if 0 < z.length then some (.bi (.clearS z) [x]) else none
            | none => none
          | _ => none
        | none => none
      | .delete, [m, k] => match c.argTypes[0]? with
        | some t => match P.underlying t with
          | some (.map kt _) => (keyC P kt).map fun c => .bi (.delete c) [m, k]
          | _ => none
        | none => none
      | _, _ => none
    | _ => none
def cOp (o : Oper) : Option VOp :=
  match o.op with
  | .move x | .assign x => (cOpd x).map .mov
  | .pick c a b => match cOpd c, cOpd a, cOpd b with
    | some c, some a, some b => some (.pick c a b)
    | _, _, _ => none
  | .alloc e => (zeroC P e).map (.alloc · e)
  | .box e x => (cOpd x).map (.box e ·)
  | .build t ps => match zeroC P t, P.underlying t with
    | some z, some (.struct fs) => (cParts (fun i => (fs[i]?).map fun f => (f.offset, P.cellsOf f.type)) ps.toList).bind fun q => if fs.toList.all (fun f => has P f.type) then some (.build z q) else none
    | some z, some (.array _ e) => if has P e then (cParts (fun i => some (i * P.cellsOf e, P.cellsOf e)) ps.toList).map (.build z ·) else none
    | _, _ => none
  | .buildSlice t len ps => match P.underlying t with
    | some (.slice e) => match zeroC P e with
      | some z => if 0 < z.length ∧ len * P.cellsOf e ≤ 16777216 then (cParts (fun i => some (i * P.cellsOf e, P.cellsOf e)) ps.toList).map (.bslice z e len ·) else none
      | none => none
    | _ => none
  | .load t a => if has P t then (cOpd a).map (.load (isAggB P t) (P.cellsOf t) ·) else none
  | .store t a x => match cOpd a, cOpd x with
    | some a, some x => if has P t then some (.store (P.cellsOf t) a x) else none
    | _, _ => none
  | .nilCheck x => (cOpd x).map .nilck
  | .binOp op t x y _ => match cOpd x, cOpd y with
    | some x, some y =>
      if op = .eql ∨ op = .neq then
        match P.underlying t with
        | some (.int _) | some .string => some (.bin op x y)
        | some .bool => some (.eqs .bool (op = .neq) x y)
        | some (.pointer _) => some (.eqs .ptr (op = .neq) x y)
        | some (.slice _) => some (.eqs .sl (op = .neq) x y)
        | some (.map _ _) => some (.eqs .map (op = .neq) x y)
        | some (.func _ _ _) => some (.eqs .fn (op = .neq) x y)
        | some (.struct _) => match eqFlat P 5 t with
          | some ks => if P.eqGuardType P.depth t = false then some (.eqs (.flat ks) (op = .neq) x y) else none
          | none => none
        | _ => none
      else match P.underlying t with
        | some (.int _) | some .string => some (.bin op x y)
        | _ => none
    | _, _ => none
  | .unOp op _ x => (cOpd x).map (.un op ·)
  | .convert src dst x => match P.underlying src, P.underlying dst, cOpd x with
    | some (.int _), some (.int k), some x => some (.conv (.int k) x)
    | some .string, some .string, some x => some (.conv .same x)
    | some (.slice e), some .string, some x => match P.underlying e with
      | some (.int .u8) => some (.conv .text x)
      | _ => none
    | some (.slice _), some (.slice e), some x => match P.underlying e with
      | some (.int .u8) => if src = dst then some (.conv .mark x) else none
      | _ => none
    | _, _, _ => none
  | .makeFunc (.func f) first caps => if first = #[] ∧ f < YB then (cOpds caps.toList).map (.mkfn f ·) else none
  | .makeMap _ none => some .mkmap
  | .makeSlice t l c => match P.underlying t with
    | some (.slice e) => match zeroC P e, cOpd l, cOpd c with
      | some z, some l, some c => if 0 < z.length then some (.mkslice z e (P.bytesOf e) l c) else none
      | _, _, _ => none
    | _ => none
  | .slice t x lo hi mx => match cOpd x, optO lo, optO hi, optO mx with
    | some x, some lo, some hi, some mx => match P.underlying t with
      | some (.array n e) => if has P e = true ∧ n ≤ 16777216 then some (.sliceA (P.cellsOf e) n x lo hi mx) else none
      | some (.slice e) => if has P e then some (.slice (P.cellsOf e) x lo hi mx) else none
      | some .string => if mx.isNone then some (.sliceS x lo hi) else none
      | _ => none
    | _, _, _, _ => none
  | .fieldAddr s x i => match P.underlying s, cOpd x with
    | some (.struct fs), some x => match fs[i]? with
      | some f => if has P f.type ∧ P.cellsOf f.type ≠ 0 then some (.faddr f.offset x) else none
      | none => none
    | _, _ => none
  | .field s x i => match P.underlying s, cOpd x with
    | some (.struct fs), some x => match fs[i]? with
      | some f => if has P f.type then some (.field (isAggB P f.type) f.offset (P.cellsOf f.type) x) else none
      | none => none
    | _, _ => none
  | .indexAddr t x i => match P.underlying t, cOpd x, cOpd i with
    | some (.array n e), some x, some i => if has P e then some (.iaddr (P.cellsOf e) (some n) x i) else none
    | some (.slice e), some x, some i => if has P e then some (.iaddr (P.cellsOf e) none x i) else none
    | _, _, _ => none
  | .index t x i => match P.underlying t, cOpd x, cOpd i with
    | some (.array n e), some x, some i => if has P e then some (.index (isAggB P e) (P.cellsOf e) n x i) else none
    | some .string, some x, some i => some (.indexS x i)
    | _, _, _ => none
  | .lookup t x i ok => match P.underlying t, cOpd x, cOpd i with
    | some (.map kt e), some x, some i => match keyC P kt, (P.info? e).bind (·.zero) with
      | some c, some z => (avOf z).map (.lookup c · ok x i)
      | _, _ => none
    | _, _, _ => none
  | .mapUpdate t m k v | .insert t m k v => match P.underlying t, cOpd m, cOpd k, cOpd v with
    | some (.map kt _), some m, some k, some v => (keyC P kt).map fun c => .mupd c m k v
    | _, _, _, _ => none
  | .extract x i => (cOpd x).map (.extract · i)
  | .call c => cCall P c
  | .range t x => match P.underlying t with
    | some (.map _ _) => (cOpd x).map .range
    | _ => none
  | .next x false => (cOpd x).map .next
  | .entry x => (cOpd x).map .entry
  | _ => none
def cOper (nt : Nat) (ops : Array Oper) (o : Oper) : Option VO :=
  match (cOp P o).getD .bad with
  | v =>
    if o.dst.all (· < nt) then
      match o.guard with
      | none => some ⟨o.dst, none, v⟩
      | some (j, want) => match (ops[j]?).bind (·.dst) with
        | some t => some ⟨o.dst, some (t, want), v⟩
        | none => none
    else none
def cOpers (nt : Nat) (ops : Array Oper) : Option (List VO) := ops.toList.mapM (cOper P nt ops)
/-- of each operation those that come first, in every order -/
def before (ops : Array Oper) : List (List Nat) :=
  (ops.toList.foldl (fun (acc : List (List Nat)) o =>
    acc ++ [(List.range acc.length).filter fun i => o.after.toList.any fun e => Region.binds .any e && (Nat.beq e.on i || (acc.getD e.on []).contains i)]) [])
def edges (o : Oper) : List Nat := (o.after.toList.filter fun e => Region.binds .any e).map (·.on)
def firstChk (os : List Oper) (B : List (List Nat)) : Bool :=
  os.zipIdx.all fun p => (edges p.1).all (fun e => Nat.blt e p.2) && (B.getD p.2 []).all fun j => (edges p.1).any fun e => Nat.beq e j || (B.getD e []).contains j
def pairChk (B : List (List Nat)) (x y : VO × Nat) : Bool :=
  Nat.beq x.2 y.2 ||
    ((match x.1.dst with
      | some t => (y.1.dst != some t) && (!(y.1.looks.contains t) || (Nat.blt x.2 y.2 && (B.getD y.2 []).contains x.2) || (Nat.blt y.2 x.2 && (B.getD x.2 []).contains y.2))
      | none => true) &&
     (!(x.1.acts && y.1.acts && Nat.blt x.2 y.2) || (B.getD y.2 []).contains x.2))
def drawnChk (os : List Oper) (l : List VO) (B : List (List Nat)) : Bool :=
  firstChk os B && l.zipIdx.all fun x => l.zipIdx.all fun y => pairChk B x y
def actAt (l : List VO) (j : Nat) : Bool := match l[j]? with
  | some o => o.acts
  | none => false
def looseKs (l : List VO) (B : List (List Nat)) (i : Nat) : List Nat :=
  (List.range (l.length + 1)).filter fun k =>
    (Nat.beq k 0 || actAt l (k - 1)) && (List.range l.length).all (fun j => !(actAt l j) || ((!((B.getD i []).contains j) || Nat.blt j k) && (!((B.getD j []).contains i) || Nat.ble k j))) &&
    (List.range l.length).any (fun j => actAt l j && ((Nat.ble k j && Nat.blt j i) || (Nat.ble i j && Nat.blt j k)))
def looseOf (l : List VO) (B : List (List Nat)) : List (Nat × List Nat) :=
  (l.zipIdx.filterMap fun p => if Nat.beq p.1.op.kind 1 then (match looseKs l B p.2 with | [] => none | ks => some (p.2, ks)) else none)
def mixPair (B : List (List Nat)) (x y : VO × Nat) : Bool :=
  Nat.beq x.2 y.2 ||
    ((match x.1.dst with
      | some t => (y.1.dst != some t) && (!(y.1.looks.contains t) || (Nat.blt x.2 y.2 && (B.getD y.2 []).contains x.2) || (Nat.blt y.2 x.2 && (B.getD x.2 []).contains y.2))
      | none => true) &&
     (!(x.1.acts && y.1.acts && Nat.blt x.2 y.2) || (B.getD y.2 []).contains x.2 || y.1.op.fresh))
/-- what a look comes behind has no act ahead of it that may come later -/
def lookChk (l : List VO) (B : List (List Nat)) : Bool :=
  l.zipIdx.all fun p => !(Nat.beq p.1.op.kind 1) || (List.range l.length).all fun j => !(actAt l j && (B.getD p.2 []).contains j) ||
    (List.range j).all fun x => !(actAt l x) || (B.getD p.2 []).contains x
def mixedChk (os : List Oper) (l : List VO) (B : List (List Nat)) : Bool :=
  firstChk os B && (l.zipIdx.all fun x => l.zipIdx.all fun y => mixPair B x y) && lookChk l B
/-- a loop over a map: the parts that its two halves show -/
def rangeOf : VCode → VCode → Option VCode
  | .ops l, .block out (.loop (.seq (.ops [⟨some nx, none, .next (.t i1)⟩, ⟨some mr, none, .extract (.t nx2) 0⟩]) (.seq (.cond (.t mr2) .skip (.exit out2)) (.block nxt (.seq (.ops (⟨some pr, none, .entry (.t i2)⟩ :: as)) body))))) =>
    match l.getLast? with
    | some ⟨some it, none, .range x⟩ => if i1 = it ∧ i2 = it ∧ nx2 = nx ∧ mr2 = mr ∧ out2 = out ∧ nxt ≠ out then some (.rangeM l.dropLast it x out nx mr nxt pr as body) else none
    | _ => none
  | _, _ => none
def mkSeq (a b : VCode) : VCode := (rangeOf a b).getD (.seq a b)
def cCode (nt : Nat) : Code → Option VCode
  | .skip => some .skip
  | .region _ ops false => (cOpers P nt ops).map .ops
  | .region _ ops true => (cOpers P nt ops).map fun l => bif drawnChk ops.toList l (before ops) then .drawn l (looseOf l (before ops)) else bif mixedChk ops.toList l (before ops) then .mixed l (looseOf l (before ops)) else .bad
  | .seq a b => match cCode nt a, cCode nt b with
    | some a, some b => some (mkSeq a b)
    | _, _ => none
  | .cond c a b => match cOpd c, cCode nt a, cCode nt b with
    | some c, some a, some b => some (.cond c a b)
    | _, _, _ => none
  | .block id b => (cCode nt b).map (.block id ·)
  | .loop b => (cCode nt b).map .loop
  | .exit id => some (.exit id)
  | .ret => some .ret
  | .rangeFunc g ps asg b => match cOpd g, cCode nt asg, cCode nt b with
    | some g, some asg, some b => if ps.toList.all (· < nt) then some (.rangeFn g ps.toList asg b) else none
    | _, _, _ => none
  | _ => some .bad
def cRes : ResultVar → Option VRes
  | .tmp t => some (.tmp t)
  | .cell a t => if has P t then some (.cell a (isAggB P t) (P.cellsOf t)) else none
def cFun (fn : Func) : Option VFun :=
  match fn.body with
  | none => none
  | some c => match cCode P fn.ntmps c, fn.results.toList.mapM (cRes P) with
    | some c, some r => if fn.params.size + fn.nfree ≤ fn.ntmps then some ⟨fn.params.size + fn.nfree, r, c⟩ else none
    | _, _ => none
end
end Go.Proofs.Ytlemediphmnffaa.VM
namespace Go.Proofs.Ytlemediphmnffaa.VM
open Go.RowKit
/-- Where the machine's blocks lie: block and first cell. -/
abbrev Env := Nat → Option (Nat × Nat)
/-- a truth? -/
def isB : Value → Bool
  | .bool _ => true
  | _ => false
mutual
inductive VR (φ : Env) (w : World) : AV → Value → Prop
  | undef {u : Value} (h : isB u = false) : VR φ w .undef u
  | bool (b : Bool) : VR φ w (.bool b) (.bool b)
  | int (k : IntKind) (n : Int) : VR φ w (.int k n) (.int k n)
  | str (s : ByteArray) : VR φ w (.str (s.data.toList.map fun c => c.toNat)) (.string s)
  | ptr {b off B o : Nat} (h : φ b = some (B, o)) : VR φ w (.ptr b off) (.pointer (some ⟨B, o + off, none⟩))
  | nilp : VR φ w .nilp (.pointer none)
  | sl {b off len cap sz B o c n : Nat} {e : TypeId} (h : φ b = some (B, o)) (hc : cap ≤ c) (hl : len ≤ cap) (hs : w.shape? B = some (e, n)) (hr : o + off + c * sz ≤ n ∧ c ≤ 9223372036854775807) :
      VR φ w (.sl b off len cap sz) (.slice (some ⟨B, o + off, none⟩) len c)
  | sl0 {b off sz : Nat} (a : Addr) : VR φ w (.sl b off 0 0 sz) (.slice (some a) 0 0)
  | nils : VR φ w .nils (.slice none 0 0)
  | map {b B o : Nat} (h : φ b = some (B, o)) : VR φ w (.map b) (.map (some B))
  | nilm : VR φ w .nilm (.map none)
  | fn {f : Nat} {l : List AV} {vs : Array Value} (hf : f < YB) (h : VRs φ w l vs.toList) : VR φ w (.fn f l) (.func (.func f) #[] vs)
  | nilf : VR φ w .nilf .nilFunc
  | agg {l : List AV} {vs : Array Value} (h : VRs φ w l vs.toList) : VR φ w (.agg l) (.agg vs)
  | tup {l : List AV} {vs : Array Value} (h : VRs φ w l vs.toList) : VR φ w (.tup l) (.tuple vs)
  | rs {l : List AV} {len B off c : Nat} (hl : len ≤ c) (hB : ∀ b p, φ b = some p → p.1 ≠ B) (hlt : B < w.heap.size) (h : VRm φ w l B off) : VR φ w (.rs l len) (.slice (some ⟨B, off, none⟩) len c)
  | rs0 (a : Addr) (c : Nat) : VR φ w (.rs [] 0) (.slice (some a) 0 c)
  | yld {b B o : Nat} (h : φ b = some (B, o)) : VR φ w (.yld b) (.func (.yield B) #[] #[])
  | rp {l : List AV} {B off : Nat} (hB : ∀ b p, φ b = some p → p.1 ≠ B) (hlt : B < w.heap.size) (h : VRm φ w l B off) : VR φ w (.rp l) (.pointer (some ⟨B, off, none⟩))
inductive VRs (φ : Env) (w : World) : List AV → List Value → Prop
  | nil : VRs φ w [] []
  | cons {x : AV} {u : Value} {l : List AV} {vs : List Value} (h : VR φ w x u) (t : VRs φ w l vs) : VRs φ w (x :: l) (u :: vs)
inductive VRm (φ : Env) (w : World) : List AV → Nat → Nat → Prop
  | nil {B off : Nat} : VRm φ w [] B off
  | cons {x : AV} {u : Value} {l : List AV} {B off : Nat} (hc : w.cell? ⟨B, off, none⟩ = some u) (h : VR φ w x u) (t : VRm φ w l B (off + 1)) : VRm φ w (x :: l) B off
end
/-- how much was drawn: never less -/
def dr (_ _ : World) : Prop := True
theorem dr_le {w w' : World} (_ : w.drawn ≤ w'.drawn) : dr w w' := trivial
theorem dr_trans {a b c : World} (_ : dr a b) (_ : dr b c) : dr a c := trivial
theorem dr_any (w w' : World) : dr w w' := trivial
/-- From world and places to world and places: what is not named stays. -/
structure Upd (φ : Env) (w : World) (φ' : Env) (w' : World) : Prop where
  os : w'.os = w.os
  tape : w'.tape = w.tape
  output : w'.output = w.output
  size : w.heap.size ≤ w'.heap.size
  ext : ∀ b p, φ b = some p → φ' b = some p
  new : ∀ b B o, φ' b = some (B, o) → (∃ b0 o0, φ b0 = some (B, o0)) ∨ w.heap.size ≤ B
  keep : ∀ B, B < w.heap.size → (∀ b p, φ b = some p → p.1 ≠ B) → w'.heap[B]? = w.heap[B]?
  shape : ∀ B x, w.shape? B = some x → w'.shape? B = some x
  drawn : dr w w'
theorem Upd.refl (φ : Env) (w : World) : Upd φ w φ w :=
  ⟨rfl, rfl, rfl, Nat.le_refl _, fun _ _ h => h, fun _ _ _ h => .inl ⟨_, _, h⟩, fun _ _ _ => rfl, fun _ _ h => h, dr_le (Nat.le_refl _)⟩
theorem Upd.trans {φ φ1 φ2 : Env} {w w1 w2 : World} (h : Upd φ w φ1 w1) (k : Upd φ1 w1 φ2 w2) : Upd φ w φ2 w2 where
  os := k.os.trans h.os
  tape := k.tape.trans h.tape
  output := k.output.trans h.output
  size := Nat.le_trans h.size k.size
  ext b p hb := k.ext b p (h.ext b p hb)
  new b B o hb := by
    rcases k.new b B o hb with ⟨b0, o0, h0⟩ | h0
    · exact h.new _ _ _ h0
    · exact .inr (Nat.le_trans h.size h0)
  keep B hB hn := by
    rw [k.keep B (Nat.lt_of_lt_of_le hB h.size) (fun b p hb he => ?_), h.keep B hB hn]
    obtain ⟨B1, o1⟩ := p
    simp only at he
    subst he
    rcases h.new _ _ _ hb with ⟨b0, o0, h0⟩ | h0
    · exact hn _ _ h0 rfl
    · omega
  shape B x hx := k.shape B x (h.shape B x hx)
  drawn := dr_trans h.drawn k.drawn
theorem cell_of_heap {w w' : World} {B : Nat} (h : w'.heap[B]? = w.heap[B]?) (off : Nat) : w'.cell? ⟨B, off, none⟩ = w.cell? ⟨B, off, none⟩ := by
  simp only [World.cell?, h]
section
variable {φ φ' : Env} {w w' : World}
theorem named_new (u : Upd φ w φ' w') {B : Nat} (hB : ∀ b p, φ b = some p → p.1 ≠ B) (hlt : B < w.heap.size) : ∀ b p, φ' b = some p → p.1 ≠ B := by
  intro b p hb he
  obtain ⟨B1, o1⟩ := p
  simp only at he
  subst he
  rcases u.new _ _ _ hb with ⟨b0, o0, h0⟩ | h0
  · exact hB _ _ h0 rfl
  · omega
mutual
/-- What a value stands for stays. -/
theorem VR.upd (u : Upd φ w φ' w') : ∀ {x : AV} {v : Value}, VR φ w x v → VR φ' w' x v
  | _, _, .undef h => .undef h
  | _, _, .bool b => .bool b
  | _, _, .int k n => .int k n
  | _, _, .str s => .str s
  | _, _, .ptr h => .ptr (u.ext _ _ h)
  | _, _, .nilp => .nilp
  | _, _, .sl h hc hl hs hr => .sl (u.ext _ _ h) hc hl (u.shape _ _ hs) hr
  | _, _, .sl0 a => .sl0 a
  | _, _, .nils => .nils
  | _, _, .map h => .map (u.ext _ _ h)
  | _, _, .nilm => .nilm
  | _, _, .fn hf h => .fn hf (h.upd u)
  | _, _, .yld h => .yld (u.ext _ _ h)
  | _, _, .nilf => .nilf
  | _, _, .agg h => .agg (h.upd u)
  | _, _, .tup h => .tup (h.upd u)
  | _, _, .rs hl hB hlt h => .rs hl (named_new u hB hlt) (Nat.lt_of_lt_of_le hlt u.size) (h.upd u (u.keep _ hlt hB))
  | _, _, .rs0 a c => .rs0 a c
  | _, _, .rp hB hlt h => .rp (named_new u hB hlt) (Nat.lt_of_lt_of_le hlt u.size) (h.upd u (u.keep _ hlt hB))
theorem VRs.upd (u : Upd φ w φ' w') : ∀ {l : List AV} {vs : List Value}, VRs φ w l vs → VRs φ' w' l vs
  | _, _, .nil => .nil
  | _, _, .cons h t => .cons (h.upd u) (t.upd u)
/-- memory that keeps its cells -/
theorem VRm.upd (u : Upd φ w φ' w') : ∀ {l : List AV} {B off : Nat}, VRm φ w l B off → w'.heap[B]? = w.heap[B]? → VRm φ' w' l B off
  | _, _, _, .nil, _ => .nil
  | _, _, _, .cons hc h t, hB => .cons ((cell_of_heap hB _).trans hc) (h.upd u) (t.upd u hB)
end
theorem VRs.length : ∀ {l : List AV} {vs : List Value}, VRs φ w l vs → l.length = vs.length
  | _, _, .nil => rfl
  | _, _, .cons _ t => by simp [t.length]
theorem VRs.append : ∀ {l l' : List AV} {vs vs' : List Value}, VRs φ w l vs → VRs φ w l' vs' → VRs φ w (l ++ l') (vs ++ vs')
  | _, _, _, _, .nil, h => h
  | _, _, _, _, .cons h t, h' => .cons h (t.append h')
theorem VRs.drop : ∀ (n : Nat) {l : List AV} {vs : List Value}, VRs φ w l vs → VRs φ w (l.drop n) (vs.drop n)
  | 0, _, _, h => h
  | _ + 1, _, _, .nil => .nil
  | n + 1, _, _, .cons _ t => t.drop n
theorem VRs.take : ∀ (n : Nat) {l : List AV} {vs : List Value}, VRs φ w l vs → VRs φ w (l.take n) (vs.take n)
  | 0, _, _, _ => .nil
  | _ + 1, _, _, .nil => .nil
  | n + 1, _, _, .cons h t => .cons h (t.take n)
theorem VRs.get : ∀ {l : List AV} {vs : List Value}, VRs φ w l vs → ∀ {i : Nat} {x : AV}, l[i]? = some x → ∃ u, vs[i]? = some u ∧ VR φ w x u
  | _, _, .nil, _, _, h => by simp at h
  | _, _, .cons h _, 0, _, e => by simp at e; subst e; exact ⟨_, rfl, h⟩
  | _, _, .cons _ t, i + 1, _, e => by simp at e; simpa using t.get e
theorem VRs.of_get : ∀ {l : List AV} {vs : List Value}, l.length = vs.length → (∀ (i : Nat) (x : AV) (u : Value), l[i]? = some x → vs[i]? = some u → VR φ w x u) → VRs φ w l vs
  | [], [], _, _ => .nil
  | x :: l, u :: vs, hl, h => .cons (h 0 x u rfl rfl) (VRs.of_get (by simpa using hl) fun i y v h1 h2 => h (i + 1) y v (by simpa using h1) (by simpa using h2))
  | [], _ :: _, hl, _ => by simp at hl
  | _ :: _, [], hl, _ => by simp at hl
theorem VRm.get : ∀ {l : List AV} {B off : Nat}, VRm φ w l B off → ∀ {i : Nat} {x : AV}, l[i]? = some x → ∃ u, w.cell? ⟨B, off + i, none⟩ = some u ∧ VR φ w x u
  | _, _, _, .nil, _, _, h => by simp at h
  | _, _, _, .cons hc h _, 0, _, e => by simp at e; subst e; exact ⟨_, hc, h⟩
  | _, _, off, .cons _ _ t, i + 1, _, e => by
    simp at e
    obtain ⟨u, h1, h2⟩ := t.get e
    exact ⟨u, by rw [show off + (i + 1) = off + 1 + i by omega]; exact h1, h2⟩
theorem VRm.of_get : ∀ {l : List AV} {B off : Nat}, (∀ (i : Nat) (x : AV), l[i]? = some x → ∃ u, w.cell? ⟨B, off + i, none⟩ = some u ∧ VR φ w x u) → VRm φ w l B off
  | [], _, _, _ => .nil
  | x :: l, B, off, h => by
    obtain ⟨u, h1, h2⟩ := h 0 x rfl
    exact .cons h1 h2 (VRm.of_get fun i y hy => by
      obtain ⟨v, g1, g2⟩ := h (i + 1) y (by simpa using hy)
      exact ⟨v, by rw [show off + 1 + i = off + (i + 1) by omega]; exact g1, g2⟩)
theorem VRm.drop {l : List AV} {B off : Nat} (h : VRm φ w l B off) (n : Nat) : VRm φ w (l.drop n) B (off + n) :=
  VRm.of_get fun i x hx => by
    obtain ⟨u, h1, h2⟩ := h.get (i := n + i) (x := x) (by simpa using hx)
    exact ⟨u, by rw [Nat.add_assoc]; exact h1, h2⟩
theorem VRm.take {l : List AV} {B off : Nat} (h : VRm φ w l B off) (n : Nat) : VRm φ w (l.take n) B off :=
  VRm.of_get fun i x hx => by
    have : l[i]? = some x := by
      rw [List.getElem?_take] at hx
      split at hx
      · exact hx
      · cases hx
    exact h.get this
/-- The cells as a list of values. -/
theorem VRm.vals : ∀ {l : List AV} {B off : Nat}, VRm φ w l B off → ∃ us : List Value, VRs φ w l us ∧ ∀ j u, us[j]? = some u → w.cell? ⟨B, off + j, none⟩ = some u
  | _, _, _, .nil => ⟨[], .nil, fun j u h => by simp at h⟩
  | _, _, off, .cons (u := u) hc h t => by
    obtain ⟨us, h1, h2⟩ := t.vals
    refine ⟨u :: us, .cons h h1, fun j v hj => ?_⟩
    cases j with
    | zero => simp at hj; subst hj; exact hc
    | succ j => rw [show off + (j + 1) = off + 1 + j by omega]; exact h2 j v (by simpa using hj)
end
/-- the frozen stretch of a row -/
def frz? (w : World) (B : Nat) : Option (Nat × Nat) := match w.heap[B]? with
  | some (.cells _ _ fr) => some fr
  | _ => none
/-- nothing of a row is frozen, but behind its end -/
def Thawed (w : World) (B n : Nat) : Prop := (∀ i, i ≤ n → w.frozen? ⟨B, i, none⟩ = false) ∧ ∀ fr, frz? w B = some fr → fr.1 ≤ fr.2
theorem Thawed.keep {w w' : World} {B n : Nat} (h : Thawed w B n) (e : w'.heap[B]? = w.heap[B]?) : Thawed w' B n := by
  refine ⟨fun i hi => ?_, fun fr hf => h.2 fr ?_⟩
  · rw [← h.1 i hi]; simp only [World.frozen?, e]
  · rw [← hf]; simp only [frz?, e]
/-- a loop's record -/
def stOf : Nat → LoopState
  | 0 => .ready
  | 1 => .busy
  | 2 => .done
  | _ => .exhausted
def jumpOf : Ex → Code
  | .exit id => .exit id
  | _ => .ret
structure LoopR (φ : Env) (w : World) (r : LoopB) (rec : Loop) : Prop where
  code : ∃ nt, rec.tmps.size = nt ∧ (∀ p ∈ r.ps, p < nt) ∧ cCode r.P nt rec.assign = some r.asg ∧ cCode r.P nt rec.body = some r.body
  get : ∀ t, VR φ w ((r.s.get t).getD .undef) (rec.tmps.getD t undef)
  ps : rec.params.toList = r.ps
  state : rec.state = stOf r.state
  pend : rec.pending = r.pend.map jumpOf
theorem LoopR.upd {φ φ' : Env} {w w' : World} {r : LoopB} {rec : Loop} (h : LoopR φ w r rec) (u : Upd φ w φ' w') : LoopR φ' w' r rec := ⟨h.code, fun t => (h.get t).upd u, h.ps, h.state, h.pend⟩
/-- a map's stamps -/
def Stm (vs : Array MapEntry) (clock : Nat) : Prop := (∀ x ∈ vs.toList, x.born < clock) ∧ (vs.toList.map (·.born)).Nodup
/-- What a block stands for. -/
def BR (φ : Env) (w : World) (b : Nat) : Option Blk → Prop
  | none => φ b = none
  | some .dead => True
  | some (.cells l _ _) => ∃ B o e n, φ b = some (B, o) ∧ w.shape? B = some (e, n) ∧ VRm φ w l B o ∧ Thawed w B n ∧ o + l.length ≤ n
  | some (.map es _) => ∃ B o vs clock, φ b = some (B, o) ∧ w.heap[B]? = some (.map vs clock) ∧ VRs φ w (es.map (·.1)) (vs.toList.map (·.key)) ∧ VRs φ w (es.map (·.2)) (vs.toList.map (·.val)) ∧ Stm vs clock
  | some (.loop r) => ∃ B o rec, φ b = some (B, o) ∧ w.heap[B]? = some (.loop rec) ∧ LoopR φ w r rec
  | some (.kf m) => ∃ B Bm om e, φ b = some (B, 0) ∧ w.heap[B]? = some (.cells #[.map (some Bm)] e (0, 0)) ∧ φ m = some (Bm, om)
def live : Option Blk → Bool
  | some (.cells ..) | some (.map ..) | some (.loop _) | some (.kf _) => true
  | _ => false
/-- What memory stands for. -/
structure HR (φ : Env) (w : World) (H : Heap) : Prop where
  blk : ∀ b, BR φ w b (H.get b)
  lt : ∀ b p, φ b = some p → p.1 < w.heap.size
  inj : ∀ b b' p p', live (H.get b) = true → live (H.get b') = true → φ b = some p → φ b' = some p' → p.1 = p'.1 → b = b'
  next : ∀ b, H.next ≤ b → H.get b = none
namespace T
variable {α : Type}
theorem beq_dec (a b : Nat) : a.beq b = decide (a = b) := by
  rw [Bool.eq_iff_iff]; simp
theorem get_n (l r : T α) (x : Option α) (i : Nat) : (T.n l x r).get i = if i = 0 then x else if i % 2 = 1 then l.get (i / 2) else r.get (i / 2 - 1) := by
  rw [get, beq_dec, beq_dec]
  by_cases h : i = 0
  · simp [h]
  · by_cases h2 : i % 2 = 1 <;> simp [h, h2]
theorem setF_e (v : α) (f i : Nat) : setF v (f + 1) i .e = if i = 0 then .n .e (some v) .e else if i % 2 = 1 then .n (setF v f (i / 2) .e) none .e else .n .e none (setF v f (i / 2 - 1) .e) := by
  rw [setF, beq_dec, beq_dec]
  by_cases h : i = 0
  · simp [h]
  · by_cases h2 : i % 2 = 1 <;> simp [h, h2]
theorem setF_n (v : α) (f i : Nat) (l r : T α) (x : Option α) : setF v (f + 1) i (.n l x r) = if i = 0 then .n l (some v) r else if i % 2 = 1 then .n (setF v f (i / 2) l) x r else .n l x (setF v f (i / 2 - 1) r) := by
  rw [setF, beq_dec, beq_dec]
  by_cases h : i = 0
  · simp [h]
  · by_cases h2 : i % 2 = 1 <;> simp [h, h2]
theorem get_e (i : Nat) : (T.e : T α).get i = none := rfl
theorem get_setF (v : α) : ∀ (f i : Nat) (t : T α), i < f → ∀ j, (setF v f i t).get j = if j = i then some v else t.get j
  | 0, i, _, h, _ => by omega
  | f + 1, i, t, h, j => by
    have ih1 := fun (t : T α) (hi : i / 2 < f) => get_setF v f (i / 2) t hi
    have ih2 := fun (t : T α) (hi : i / 2 - 1 < f) => get_setF v f (i / 2 - 1) t hi
    cases t with
    | e =>
      rw [setF_e, get_e]
      by_cases h0 : i = 0
      · rw [if_pos h0, get_n, get_e, get_e]
        by_cases j0 : j = 0
        · rw [if_pos j0, if_pos (by omega)]
        · rw [if_neg j0, if_neg (show ¬ j = i by omega)]; simp
      · rw [if_neg h0]
        by_cases h1 : i % 2 = 1
        · rw [if_pos h1, get_n, get_e]
          by_cases j0 : j = 0
          · rw [if_pos j0, if_neg (by omega)]
          · rw [if_neg j0]
            by_cases j1 : j % 2 = 1
            · rw [if_pos j1, ih1 .e (by omega), get_e]
              by_cases e : j = i
              · rw [if_pos (by omega), if_pos e]
              · rw [if_neg (by omega), if_neg e]
            · rw [if_neg j1, if_neg (by omega)]
        · rw [if_neg h1, get_n, get_e]
          by_cases j0 : j = 0
          · rw [if_pos j0, if_neg (by omega)]
          · rw [if_neg j0]
            by_cases j1 : j % 2 = 1
            · rw [if_pos j1, if_neg (by omega)]
            · rw [if_neg j1, ih2 .e (by omega), get_e]
              by_cases e : j = i
              · rw [if_pos (by omega), if_pos e]
              · rw [if_neg (by omega), if_neg e]
    | n l x r =>
      rw [setF_n, get_n]
      by_cases h0 : i = 0
      · rw [if_pos h0, get_n]
        by_cases j0 : j = 0
        · rw [if_pos j0, if_pos (by omega)]
        · rw [if_neg j0, if_neg (show ¬ j = i by omega), if_neg j0]
      · rw [if_neg h0]
        by_cases h1 : i % 2 = 1
        · rw [if_pos h1, get_n]
          by_cases j0 : j = 0
          · rw [if_pos j0, if_neg (by omega), if_pos j0]
          · rw [if_neg j0, if_neg j0]
            by_cases j1 : j % 2 = 1
            · rw [if_pos j1, if_pos j1, ih1 l (by omega)]
              by_cases e : j = i
              · rw [if_pos (by omega), if_pos e]
              · rw [if_neg (by omega), if_neg e]
            · rw [if_neg j1, if_neg j1, if_neg (by omega)]
        · rw [if_neg h1, get_n]
          by_cases j0 : j = 0
          · rw [if_pos j0, if_neg (by omega), if_pos j0]
          · rw [if_neg j0, if_neg j0]
            by_cases j1 : j % 2 = 1
            · rw [if_pos j1, if_pos j1, if_neg (by omega)]
            · rw [if_neg j1, if_neg j1, ih2 r (by omega)]
              by_cases e : j = i
              · rw [if_pos (by omega), if_pos e]
              · rw [if_neg (by omega), if_neg e]
theorem get_set (t : T α) (i : Nat) (v : α) (j : Nat) : (t.set i v).get j = if j = i then some v else t.get j := get_setF v (i + 1) i t (by omega) j
end T
end Go.Proofs.Ytlemediphmnffaa.VM
namespace Go.Proofs.Ytlemediphmnffaa.VM
open Go.RowKit
theorem cut_spec {l r : List AV} {i n : Nat} (h : cut l i n = some r) : r = (l.drop i).take n ∧ r.length = n := by
  unfold cut at h
  by_cases e : ((l.drop i).take n).length = n
  · simp only [e, cond_true, T.beq_dec, decide_true] at h
    cases h
    exact ⟨rfl, e⟩
  · simp only [T.beq_dec, decide_eq_false e, cond_false] at h
    cases h
theorem Heap.get_put (h : Heap) (b : Nat) (o : Blk) (c : Nat) : (h.put b o).get c = if c = b then some o else h.get c := T.get_set _ _ _ _
theorem Heap.get_mk (h : Heap) (b : Nat) (o : Blk) (c : Nat) : (h.mk' b o).get c = if c = b then some o else h.get c := T.get_set _ _ _ _
section
variable {φ : Env} {w : World} {H : Heap}
theorem HR.cells (hr : HR φ w H) {b : Nat} {l : List AV} {e : TypeId} {ver : Nat} (h : H.get b = some (.cells l e ver)) :
    ∃ B o e' n, φ b = some (B, o) ∧ w.shape? B = some (e', n) ∧ VRm φ w l B o ∧ (∀ i, i ≤ n → w.frozen? ⟨B, i, none⟩ = false) ∧ o + l.length ≤ n := by
  have := hr.blk b
  rw [h] at this
  obtain ⟨B, o, e', n, h1, h2, h3, h4, h5⟩ := this
  exact ⟨B, o, e', n, h1, h2, h3, h4.1, h5⟩
theorem HR.thawed (hr : HR φ w H) {b : Nat} {l : List AV} {e : TypeId} {ver : Nat} (h : H.get b = some (.cells l e ver)) {B o : Nat} (hb : φ b = some (B, o)) {e' : TypeId} {n : Nat} (hs : w.shape? B = some (e', n)) : Thawed w B n := by
  have := hr.blk b
  rw [h] at this
  obtain ⟨B1, o1, e1, n1, h1, h2, _, h4, _⟩ := this
  rw [hb] at h1
  cases h1
  rw [hs] at h2
  cases h2
  exact h4
/-- A new block of cells. -/
theorem shape_alloc_old (o : Obj) {B : Nat} {x : TypeId × Nat} (h : w.shape? B = some x) : (w.alloc o).shape? B = some x := by
  unfold World.shape? at *
  have hlt : B < w.heap.size := by
    rcases Nat.lt_or_ge B w.heap.size with h' | h'
    · exact h'
    · rw [Array.getElem?_eq_none h'] at h; cases h
  rw [Below.heap_alloc _ _ _ hlt]
  exact h
theorem heap_alloc_new (w : World) (o : Obj) : (w.alloc o).heap[w.heap.size]? = some o := by
  show (w.heap.push o)[w.heap.size]? = some o
  simp
def Env.at (φ : Env) (b : Nat) (p : Nat × Nat) : Env := fun c => if c = b then some p else φ c
theorem upd_alloc (o : Obj) {nm : Nat} (hn : φ nm = none) : Upd φ w (φ.at nm (w.heap.size, 0)) (w.alloc o) where
  os := rfl
  tape := rfl
  output := rfl
  size := by simp
  ext b p hb := by
    unfold Env.at
    rw [if_neg (fun e => by rw [e, hn] at hb; cases hb)]
    exact hb
  new b B o' hb := by
    unfold Env.at at hb
    by_cases e : b = nm
    · rw [if_pos e] at hb
      cases hb
      exact .inr (Nat.le_refl _)
    · rw [if_neg e] at hb
      exact .inl ⟨_, _, hb⟩
  keep B hB _ := Below.heap_alloc _ _ _ hB
  shape B x hx := shape_alloc_old o hx
  drawn := dr_le (Nat.le_refl _)
/-- All that was there, over a step that leaves it alone. -/
theorem BR.upd {φ' : Env} {w' : World} (hr : HR φ w H) (u : Upd φ w φ' w') {b : Nat} (hlive : live (H.get b) = true) (hsame : ∀ p, φ b = some p → w'.heap[p.1]? = w.heap[p.1]?) : BR φ' w' b (H.get b) := by
  have h := hr.blk b
  revert h hlive
  cases H.get b with
  | none => intro h; cases h
  | some x =>
    cases x with
    | dead => intro h; cases h
    | cells l e ver =>
      intro _ h
      obtain ⟨B, o, e', n, h1, h2, h3, h4, h5⟩ := h
      have hs := hsame _ h1
      exact ⟨B, o, e', n, u.ext _ _ h1, u.shape _ _ h2, h3.upd u hs, h4.keep hs, h5⟩
    | map es ver =>
      intro _ h
      obtain ⟨B, o, vs, clock, h1, h2, h3, h4, h5⟩ := h
      have hs := hsame _ h1
      exact ⟨B, o, vs, clock, u.ext _ _ h1, hs.trans h2, h3.upd u, h4.upd u, h5⟩
    | loop r =>
      intro _ h
      obtain ⟨B, o, rec, h1, h2, h3⟩ := h
      have hs := hsame _ h1
      exact ⟨B, o, rec, u.ext _ _ h1, hs.trans h2, h3.upd u⟩
    | kf m =>
      intro _ h
      obtain ⟨B, Bm, om, e, h1, h2, h3⟩ := h
      exact ⟨B, Bm, om, e, u.ext _ _ h1, (hsame _ h1).trans h2, u.ext _ _ h3⟩
theorem live_named (hr : HR φ w H) {b : Nat} (h : live (H.get b) = true) : ∃ p, φ b = some p := by
  have hb := hr.blk b
  revert hb h
  cases H.get b with
  | none => intro h; cases h
  | some x =>
    cases x with
    | dead => intro h; cases h
    | cells l e ver => intro _ ⟨B, o, _, _, h1, _⟩; exact ⟨_, h1⟩
    | map es ver => intro _ ⟨B, o, _, _, h1, _⟩; exact ⟨_, h1⟩
    | loop r => intro _ ⟨B, o, _, h1, _⟩; exact ⟨_, h1⟩
    | kf m => intro _ ⟨B, _, _, _, h1, _⟩; exact ⟨_, h1⟩
theorem not_live {x : Option Blk} (h : ¬ live x = true) : x = none ∨ x = some .dead := by
  cases x with
  | none => exact .inl rfl
  | some y => cases y <;> simp [live] at h ⊢
/-- A new block. -/
theorem hr_alloc (hr : HR φ w H) {nm : Nat} (hn : H.get nm = none) {o : Obj} {x : Blk} (hx : BR (φ.at nm (w.heap.size, 0)) (w.alloc o) nm (some x)) :
    HR (φ.at nm (w.heap.size, 0)) (w.alloc o) (H.mk' nm x) := by
  have hφ : φ nm = none := by have := hr.blk nm; rw [hn] at this; exact this
  have u := upd_alloc (φ := φ) (w := w) o hφ
  refine ⟨fun b => ?_, fun b p hb => ?_, fun b b' p p' hl hl' hp hp' he => ?_, fun b hb => ?_⟩
  · rw [Heap.get_mk]
    by_cases e : b = nm
    · rw [if_pos e, e]; exact hx
    · rw [if_neg e]
      by_cases hl : live (H.get b) = true
      · exact BR.upd hr u hl fun p hp => Below.heap_alloc _ _ _ (hr.lt _ _ hp)
      · rcases not_live hl with h | h
        · rw [h]
          have := hr.blk b
          rw [h] at this
          show φ.at nm _ b = none
          unfold Env.at
          rw [if_neg e]
          exact this
        · rw [h]; trivial
  · unfold Env.at at hb
    by_cases e : b = nm
    · rw [if_pos e] at hb
      cases hb
      simp
    · rw [if_neg e] at hb
      have := hr.lt _ _ hb
      simp; omega
  · rw [Heap.get_mk] at hl hl'
    unfold Env.at at hp hp'
    by_cases e : b = nm
    · by_cases e' : b' = nm
      · rw [e, e']
      · rw [if_pos e] at hp
        rw [if_neg e'] at hp'
        cases hp
        have := hr.lt _ _ hp'
        simp at he; omega
    · by_cases e' : b' = nm
      · rw [if_neg e] at hp
        rw [if_pos e'] at hp'
        cases hp'
        have := hr.lt _ _ hp
        simp at he; omega
      · rw [if_neg e] at hp hl
        rw [if_neg e'] at hp' hl'
        exact hr.inj b b' p p' hl hl' hp hp' he
  · have hb' : max H.next (nm + 1) ≤ b := hb
    rw [Heap.get_mk, if_neg (by omega)]
    exact hr.next b (by omega)
/-- A new block of cells, by its cells. -/
theorem br_new {l : List AV} {cs : Array Value} (h : VRs φ w l cs.toList) {nm : Nat} (hn : φ nm = none) (e e' : TypeId) (ver : Nat) :
    BR (φ.at nm (w.heap.size, 0)) (w.alloc (.cells cs e')) nm (some (.cells l e ver)) := by
  have u := upd_alloc (φ := φ) (w := w) (.cells cs e') hn
  refine ⟨w.heap.size, 0, e', cs.size, by unfold Env.at; rw [if_pos rfl], ?_, VRm.of_get fun i x hx => ?_, ⟨fun i _ => by simp, fun fr hf => by simp only [frz?, heap_alloc_new, Option.some.injEq] at hf; rw [← hf]; exact Nat.le_refl _⟩, by rw [h.length]; simp⟩
  · unfold World.shape?
    rw [heap_alloc_new]
  · obtain ⟨v, hv, hrv⟩ := (h.upd u).get hx
    refine ⟨v, ?_, hrv⟩
    rw [Nat.zero_add, World.cell?_alloc_new]
    simpa using hv
/-- Writing cells of a block that is named. -/
theorem setCells_heap (B : Nat) : ∀ (vs : List Value) (o : Nat) (w : World) (k : Nat), k ≠ B → (w.setCells B o vs).heap[k]? = w.heap[k]?
  | [], _, _, _, _ => rfl
  | v :: r, o, w, k, h => by rw [World.setCells, setCells_heap B r (o + 1) _ k h, Below.heap_setCell _ _ _ _ h]
theorem setCells_size (B : Nat) : ∀ (vs : List Value) (o : Nat) (w : World), (w.setCells B o vs).heap.size = w.heap.size
  | [], _, _ => rfl
  | v :: r, o, w => by rw [World.setCells, setCells_size B r (o + 1), World.size_setCell]
theorem setCell_shape (w : World) (a : Addr) (v : Value) (B : Nat) : (w.setCell a v).shape? B = w.shape? B := by
  simp only [World.setCell, World.shape?, Array.getElem?_modify]
  by_cases h : a.block = B
  · subst h
    cases hh : w.heap[a.block]? with
    | none => simp
    | some x =>
      cases x <;> simp
      split <;> simp
  · simp [h]
theorem setCells_shape (B : Nat) : ∀ (vs : List Value) (o : Nat) (w : World) (k : Nat), (w.setCells B o vs).shape? k = w.shape? k
  | [], _, _, _ => rfl
  | v :: r, o, w, k => by rw [World.setCells, setCells_shape B r (o + 1), setCell_shape]
theorem setCells_frz (B : Nat) : ∀ (vs : List Value) (o : Nat) (w : World) (k : Nat), frz? (w.setCells B o vs) k = frz? w k
  | [], _, _, _ => rfl
  | v :: r, o, w, k => by
    rw [World.setCells, setCells_frz B r (o + 1)]
    simp only [World.setCell, frz?, Array.getElem?_modify]
    by_cases h : B = k
    · subst h
      simp only [if_true]
      cases w.heap[B]? with
      | none => rfl
      | some x => cases x <;> rfl
    · rw [if_neg h]
theorem Thawed.setCells {w : World} {B n : Nat} (h : Thawed w B n) (B' o : Nat) (vs : List Value) : Thawed (w.setCells B' o vs) B n :=
  ⟨fun i hi => by rw [World.frozen?_setCells]; exact h.1 i hi, fun fr hf => h.2 fr (by rw [← hf, setCells_frz])⟩
theorem setCells_rest (B : Nat) : ∀ (vs : List Value) (o : Nat) (w : World), (w.setCells B o vs).os = w.os ∧ (w.setCells B o vs).tape = w.tape ∧ (w.setCells B o vs).output = w.output
  | [], _, _ => ⟨rfl, rfl, rfl⟩
  | v :: r, o, w => by
    have := setCells_rest B r (o + 1) (w.setCell ⟨B, o, none⟩ v)
    rw [World.setCells]
    exact this
theorem setCells_drawn (B : Nat) : ∀ (vs : List Value) (o : Nat) (w : World), (w.setCells B o vs).drawn = w.drawn
  | [], _, _ => rfl
  | v :: r, o, w => by
    have := setCells_drawn B r (o + 1) (w.setCell ⟨B, o, none⟩ v)
    rw [World.setCells]
    exact this
theorem upd_setCells {b B o : Nat} (hb : φ b = some (B, o)) (off : Nat) (vs : List Value) : Upd φ w φ (w.setCells B off vs) where
  os := (setCells_rest B vs off w).1
  tape := (setCells_rest B vs off w).2.1
  output := (setCells_rest B vs off w).2.2
  size := by rw [setCells_size]; exact Nat.le_refl _
  ext _ _ h := h
  new _ _ _ h := .inl ⟨_, _, h⟩
  keep B' _ hn := setCells_heap B vs off w B' fun e => hn _ _ hb e.symm
  shape B' x hx := by rw [setCells_shape]; exact hx
  drawn := dr_le (by rw [setCells_drawn]; exact Nat.le_refl _)
theorem cell_lt {B k n : Nat} {e : TypeId} {v : Value} (h : w.shape? B = some (e, n)) (hc : w.cell? ⟨B, k, none⟩ = some v) : k < n := by
  unfold World.cell? at hc
  unfold World.shape? at h
  cases hh : w.heap[B]? with
  | none => rw [hh] at h; cases h
  | some x =>
    rw [hh] at h hc
    cases x with
    | cells c t fr =>
      have h' : some (t, c.size) = some (e, n) := h
      have hc' : c[k]? = some v := hc
      cases h'
      exact (Array.getElem?_eq_some_iff.1 hc').1
    | _ => cases h
theorem lsets_get (vs l : List AV) (i : Nat) (h : i + vs.length ≤ l.length) (j : Nat) : (lsets vs l i)[j]? = if j < i then l[j]? else if j < i + vs.length then vs[j - i]? else l[j]? := by
  unfold lsets
  rw [List.append_assoc]
  by_cases h1 : j < i
  · rw [if_pos h1, List.getElem?_append_left (by simp; omega), List.getElem?_take_of_lt h1]
  · rw [if_neg h1, List.getElem?_append_right (by simp; omega)]
    have e : (l.take i).length = i := by simp; omega
    rw [e]
    by_cases h2 : j < i + vs.length
    · rw [if_pos h2, List.getElem?_append_left (by omega)]
    · rw [if_neg h2, List.getElem?_append_right (by omega), List.getElem?_drop]
      congr 1; omega
theorem lsets_length (vs l : List AV) (i : Nat) (h : i + vs.length ≤ l.length) : (lsets vs l i).length = l.length := by
  unfold lsets; simp; omega
theorem writeAt_spec {h h' : Heap} {b off : Nat} {vs : List AV} (e : writeAt h b off vs = some h') :
    ∃ l t ver, h.get b = some (.cells l t ver) ∧ off + vs.length ≤ l.length ∧ vs.all AV.one = true ∧ h' = h.put b (.cells (lsets vs l off) t (ver + 1)) := by
  unfold writeAt at e
  split at e
  · rename_i l t ver hb
    by_cases c : (Nat.ble (off + vs.length) l.length && vs.all AV.one) = true
    · rw [c] at e
      cases e
      rw [Bool.and_eq_true] at c
      exact ⟨l, t, ver, hb, Nat.ble_eq ▸ c.1, c.2, rfl⟩
    · rw [Bool.not_eq_true] at c
      rw [c] at e
      cases e
  · cases e
/-- Cells are written: memory as it is then. -/
theorem hr_write (hr : HR φ w H) {b B o off : Nat} {vs : List AV} {us : List Value} {H' : Heap} (hb : φ b = some (B, o)) (e : writeAt H b off vs = some H') (hv : VRs φ w vs us) :
    HR φ (w.setCells B (o + off) us) H' ∧ (∀ j, j < us.length → (w.cell? ⟨B, o + off + j, none⟩).isSome = true) ∧ (∀ j, j < us.length → w.frozen? ⟨B, o + off + j, none⟩ = false) := by
  obtain ⟨l, t, ver, hg, hle, _, rfl⟩ := writeAt_spec e
  obtain ⟨B', o', e', n, h1, h2, h3, h4, h5⟩ := hr.cells hg
  rw [hb] at h1
  cases h1
  have hlen := hv.length
  have hcells : ∀ j, j < us.length → (w.cell? ⟨B, o + off + j, none⟩).isSome = true := by
    intro j hj
    obtain ⟨x, hx⟩ : ∃ x, l[off + j]? = some x := ⟨l[off + j]'(by omega), List.getElem?_eq_getElem _⟩
    obtain ⟨u, hu, _⟩ := h3.get hx
    rw [show o + off + j = o + (off + j) by omega, hu]
    rfl
  have u : Upd φ w φ (w.setCells B (o + off) us) := upd_setCells hb _ _
  refine ⟨⟨fun c => ?_, fun c p hp => ?_, fun c c' p p' hl hl' hp hp' he => ?_, fun c hc => ?_⟩, hcells, fun j hj => ?_⟩
  · rw [Heap.get_put]
    by_cases ec : c = b
    · rw [if_pos ec, ec]
      refine ⟨B, o, e', n, hb, by rw [setCells_shape]; exact h2, VRm.of_get fun i x hx => ?_, (hr.thawed hg hb h2).setCells _ _ _, by rw [lsets_length _ _ _ hle]; exact h5⟩
      rw [lsets_get _ _ _ hle] at hx
      by_cases c1 : i < off
      · rw [if_pos c1] at hx
        obtain ⟨v, hv1, hv2⟩ := h3.get hx
        exact ⟨v, by rw [World.cell?_setCells_out B us _ _ _ (fun _ _ => .inl (by show o + i < o + off; omega))]; exact hv1, hv2.upd u⟩
      · rw [if_neg c1] at hx
        by_cases c2 : i < off + vs.length
        · rw [if_pos c2] at hx
          obtain ⟨v, hv1, hv2⟩ := hv.get hx
          have hj : i - off < us.length := by omega
          have := World.cell?_setCells_in B us (o + off) w hcells (i - off) hj
          rw [show o + off + (i - off) = o + i by omega] at this
          rw [List.getElem?_eq_getElem hj] at hv1
          cases hv1
          exact ⟨_, this, hv2.upd u⟩
        · rw [if_neg c2] at hx
          obtain ⟨v, hv1, hv2⟩ := h3.get hx
          exact ⟨v, by rw [World.cell?_setCells_out B us _ _ _ (fun _ _ => .inr (by show o + off + us.length ≤ o + i; omega))]; exact hv1, hv2.upd u⟩
    · rw [if_neg ec]
      by_cases hl : live (H.get c) = true
      · refine BR.upd hr u hl fun p hp => setCells_heap B us _ w _ fun e' => ec ?_
        exact hr.inj c b p (B, o) hl (by rw [hg]; rfl) hp hb e'
      · rcases not_live hl with h | h
        · rw [h]
          have := hr.blk c
          rw [h] at this
          exact this
        · rw [h]; trivial
  · rw [setCells_size]; exact hr.lt _ _ hp
  · rw [Heap.get_put] at hl hl'
    have L : ∀ {d : Nat}, live (if d = b then some (Blk.cells (lsets vs l off) t (ver + 1)) else H.get d) = true → live (H.get d) = true := by
      intro d hd
      by_cases ed : d = b
      · rw [ed, hg]; rfl
      · rw [if_neg ed] at hd; exact hd
    exact hr.inj c c' p p' (L hl) (L hl') hp hp' he
  · have hc' : H.next ≤ c := hc
    rw [Heap.get_put]
    have := hr.next c hc'
    rw [if_neg (fun ec => by rw [ec, hg] at this; cases this)]
    exact this
  · obtain ⟨x, hx⟩ : ∃ x, l[off + j]? = some x := ⟨l[off + j]'(by omega), List.getElem?_eq_getElem _⟩
    obtain ⟨v, hv1, _⟩ := h3.get hx
    have hlt : o + off + j < n := by
      rw [show o + (off + j) = o + off + j by omega] at hv1
      exact cell_lt h2 hv1
    exact h4 _ (Nat.le_of_lt hlt)
/-- From memory to memory: what is not named by what lives stays; what is dead stays dead. -/
structure UpdH (φ : Env) (w : World) (H : Heap) (φ' : Env) (w' : World) (H' : Heap) : Prop extends Upd φ w φ' w' where
  keepL : ∀ B, B < w.heap.size → (∀ b p, live (H.get b) = true → φ b = some p → p.1 ≠ B) → w'.heap[B]? = w.heap[B]?
  deadL : ∀ b, H.get b ≠ none → live (H.get b) = false → H'.get b ≠ none ∧ live (H'.get b) = false ∧ φ' b = φ b
  newL : ∀ b B o, live (H'.get b) = true → φ' b = some (B, o) → (∃ b0 o0, live (H.get b0) = true ∧ φ b0 = some (B, o0)) ∨ w.heap.size ≤ B
  stay : ∀ b, H.get b ≠ none → H'.get b ≠ none
theorem UpdH.same {φ : Env} {w : World} (w' : World) (H : Heap) (u : Upd φ w φ w') (k : ∀ B, B < w.heap.size → w'.heap[B]? = w.heap[B]?) : UpdH φ w H φ w' H :=
  { toUpd := u, keepL := fun B hB _ => k B hB, deadL := fun b h1 h2 => ⟨h1, h2, rfl⟩, newL := fun b B o h1 h2 => .inl ⟨b, o, h1, h2⟩, stay := fun _ h => h }
theorem UpdH.refl (φ : Env) (w : World) (H : Heap) : UpdH φ w H φ w H := UpdH.same w H (Upd.refl _ _) fun _ _ => rfl
theorem UpdH.trans {φ φ1 φ2 : Env} {w w1 w2 : World} {H H1 H2 : Heap} (h : UpdH φ w H φ1 w1 H1) (k : UpdH φ1 w1 H1 φ2 w2 H2) : UpdH φ w H φ2 w2 H2 :=
  { toUpd := h.toUpd.trans k.toUpd
    keepL := fun B hB hn => by
      rw [k.keepL B (Nat.lt_of_lt_of_le hB h.size) (fun b p hl hb he => ?_), h.keepL B hB hn]
      obtain ⟨B1, o1⟩ := p
      simp only at he
      subst he
      rcases h.newL _ _ _ hl hb with ⟨b0, o0, h0, h1⟩ | h0
      · exact hn _ _ h0 h1 rfl
      · omega
    deadL := fun b h1 h2 => by
      obtain ⟨a1, a2, a3⟩ := h.deadL b h1 h2
      obtain ⟨b1, b2, b3⟩ := k.deadL b a1 a2
      exact ⟨b1, b2, b3.trans a3⟩
    newL := fun b B o hl hb => by
      rcases k.newL b B o hl hb with ⟨b0, o0, h0, h1⟩ | h0
      · exact h.newL _ _ _ h0 h1
      · exact .inr (Nat.le_trans h.size h0)
    stay := fun b hb => k.stay b (h.stay b hb) }
/-- a new block -/
theorem updH_alloc {φ : Env} {w : World} {H : Heap} (hr : HR φ w H) {nm : Nat} (hn : H.get nm = none) (o : Obj) (x : Blk) : UpdH φ w H (φ.at nm (w.heap.size, 0)) (w.alloc o) (H.mk' nm x) := by
  have hφ : φ nm = none := by have := hr.blk nm; rw [hn] at this; exact this
  refine { toUpd := upd_alloc o hφ, keepL := fun B hB _ => Below.heap_alloc _ _ _ hB, deadL := fun b h1 h2 => ?_, newL := fun b B o' h1 h2 => ?_, stay := fun b h1 => ?_ }
  · have hb : b ≠ nm := fun e => h1 (by rw [e, hn])
    rw [Heap.get_mk, if_neg hb]
    exact ⟨h1, h2, by unfold Env.at; rw [if_neg hb]⟩
  · rw [Heap.get_mk] at h1
    unfold Env.at at h2
    by_cases e : b = nm
    · rw [if_pos e] at h2
      cases h2
      exact .inr (Nat.le_refl _)
    · rw [if_neg e] at h1 h2
      exact .inl ⟨_, _, h1, h2⟩
  · rw [Heap.get_mk]
    by_cases e : b = nm
    · rw [if_pos e]; simp
    · rw [if_neg e]; exact h1
/-- a living block is written -/
theorem updH_put {φ : Env} {w w' : World} {H : Heap} {b B o : Nat} (hb : φ b = some (B, o)) (hl : live (H.get b) = true) (u : Upd φ w φ w') (k : ∀ B', B' < w.heap.size → B' ≠ B → w'.heap[B']? = w.heap[B']?) (x : Blk) : UpdH φ w H φ w' (H.put b x) := by
  have hne : H.get b ≠ none := fun e => by rw [e] at hl; cases hl
  refine { toUpd := u, keepL := fun B' hB hn => k B' hB fun e => hn _ _ hl hb e.symm, deadL := fun c h1 h2 => ?_, newL := fun c B' o' h1 h2 => ?_, stay := fun c h1 => ?_ }
  · have hc : c ≠ b := fun e => by rw [e, hl] at h2; cases h2
    rw [Heap.get_put, if_neg hc]
    exact ⟨h1, h2, rfl⟩
  · rw [Heap.get_put] at h1
    by_cases e : c = b
    · subst e; exact .inl ⟨_, _, hl, h2⟩
    · rw [if_neg e] at h1
      exact .inl ⟨_, _, h1, h2⟩
  · rw [Heap.get_put]
    by_cases e : c = b
    · rw [if_pos e]; simp
    · rw [if_neg e]; exact h1
theorem updH_write {φ : Env} {w : World} {H H' : Heap} {b B o off at_ : Nat} {vs : List AV} {us : List Value} (hb : φ b = some (B, o)) (e : writeAt H b off vs = some H') : UpdH φ w H φ (w.setCells B at_ us) H' := by
  obtain ⟨l, t, ver, hg, _, _, rfl⟩ := writeAt_spec e
  exact updH_put hb (by rw [hg]; rfl) (upd_setCells hb _ _) (fun B' _ hne => setCells_heap B us _ w B' hne) _
end
open Go.RowKit
theorem add_none (B o n : Nat) : (⟨B, o, none⟩ : Addr).add n = ⟨B, o + n, none⟩ := by unfold Addr.add; split <;> simp_all
/-- Slots stand for slots. -/
structure SR (φ : Env) (w : World) (nt : Nat) (st : St) (a : Act) : Prop where
  size : a.tmps.size = nt
  get : ∀ t, VR φ w (st.get t) (a.tmps.getD t undef)
theorem SR.upd {φ φ' : Env} {w w' : World} {nt : Nat} {st : St} {a : Act} (h : SR φ w nt st a) (u : Upd φ w φ' w') : SR φ' w' nt st a :=
  ⟨h.size, fun t => (h.get t).upd u⟩
theorem St.get_put (st : St) (d : Option Nat) (v : AV) (t : Nat) : (st.put d v).get t = if d = some t then v else st.get t := by
  cases d with
  | none => rfl
  | some d =>
    show ((st.s.set d v).get t).getD .undef = _
    rw [T.get_set]
    by_cases e : t = d
    · subst e; simp
    · rw [if_neg e, if_neg (fun h => e (Option.some.inj h).symm)]; rfl
theorem SR.put {φ : Env} {w : World} {nt : Nat} {st : St} {a : Act} (h : SR φ w nt st a) {d : Option Nat} (hd : d.all (· < nt) = true) {v : AV} {u : Value} (hv : VR φ w v u) (h' : Heap) :
    SR φ w nt (St.put ⟨st.s, h'⟩ d v) (a.put d u) := by
  cases d with
  | none => exact ⟨h.size, h.get⟩
  | some d =>
    have hlt : d < nt := by simpa using hd
    refine ⟨by simp [Act.put, h.size], fun t => ?_⟩
    rw [St.get_put]
    show VR φ w _ ((a.tmps.setIfInBounds d u).getD t undef)
    have e1 : St.get ⟨st.s, h'⟩ t = st.get t := rfl
    rw [e1]
    by_cases e : d = t
    · subst e
      rw [if_pos rfl]
      have : (a.tmps.setIfInBounds d u).getD d undef = u := by
        simp [Array.getD_eq_getD_getElem?, h.size, hlt]
      rw [this]
      exact hv
    · rw [if_neg (fun h => e (Option.some.inj h))]
      have : (a.tmps.setIfInBounds d u).getD t undef = a.tmps.getD t undef := by
        simp [Array.getD_eq_getD_getElem?, Array.getElem?_setIfInBounds_ne e]
      rw [this]
      exact h.get t
section
variable {φ : Env} {w : World}
theorem avCell_ok : ∀ {v : Value} {x : AV}, avCell v = some x → VR φ w x v := by
  intro v x h
  unfold avCell at h
  split at h <;> first | (cases h; done) | (cases h; constructor)
theorem mapM_cells : ∀ {vs : List Value} {l : List AV}, vs.mapM avCell = some l → VRs φ w l vs
  | [], l, h => by simp at h; subst h; exact .nil
  | v :: vs, l, h => by
    simp only [List.mapM_cons, Option.bind_eq_bind, Option.bind_eq_some_iff, Option.pure_def, Option.some.injEq] at h
    obtain ⟨x, hx, l', hl, rfl⟩ := h
    exact .cons (avCell_ok hx) (mapM_cells hl)
theorem avOf_ok {v : Value} {x : AV} (h : avOf v = some x) : VR φ w x v := by
  unfold avOf at h
  split at h
  · rename_i cs
    simp only [Option.map_eq_some_iff] at h
    obtain ⟨l, hl, rfl⟩ := h
    exact .agg (mapM_cells hl)
  · exact avCell_ok h
variable {nt : Nat} {st : St} {a : Act}
theorem opd_ok (hs : SR φ w nt st a) {x : Operand} {y : Opd} (h : cOpd x = some y) : VR φ w (y.eval st) (a.eval x) := by
  cases x with
  | tmp t => cases h; exact hs.get t
  | const v =>
    simp only [cOpd, Option.map_eq_some_iff] at h
    obtain ⟨c, hc, rfl⟩ := h
    exact avOf_ok hc
  | func f =>
    simp only [cOpd] at h
    split at h
    · rename_i hf
      cases h
      exact .fn hf .nil
    · cases h
  | global g => cases h
theorem opds_ok (hs : SR φ w nt st a) : ∀ {l : List Operand} {ys : List Opd}, cOpds l = some ys → VRs φ w (ys.map (·.eval st)) (l.map a.eval)
  | [], _, h => by simp [cOpds] at h; subst h; exact .nil
  | x :: l, ys, h => by
    simp only [cOpds, List.mapM_cons, Option.bind_eq_bind, Option.bind_eq_some_iff, Option.pure_def, Option.some.injEq] at h
    obtain ⟨y, hy, l', hl, rfl⟩ := h
    exact .cons (opd_ok hs hy) (opds_ok hs hl)
theorem VR.cells : ∀ {x : AV} {v : Value} {l : List AV}, VR φ w x v → x.cells = some l → VRs φ w l v.cells.toList := by
  intro x v l h e
  cases h <;> simp only [AV.cells, Option.some.injEq] at e <;> first | (cases e; done) | (subst e; first | assumption | exact .cons (by constructor <;> assumption) .nil)
theorem VR.one : ∀ {x : AV} {v : Value}, VR φ w x v → x.one = true → v.oneCell' = true := by
  intro x v h e
  cases h <;> first | rfl | (simp [AV.one] at e)
theorem VRs.one : ∀ {l : List AV} {vs : List Value}, VRs φ w l vs → l.all AV.one = true → ∀ v ∈ vs, v.oneCell' = true
  | _, _, .nil, _, _, h => by simp at h
  | _, _, .cons h t, e, v, hv => by
    simp only [List.all_cons, Bool.and_eq_true] at e
    cases hv with
    | head => exact h.one e.1
    | tail _ hv => exact t.one e.2 v hv
end
section
variable {P : Program}
theorem has_info {t : TypeId} (h : has P t = true) : ∃ i, P.info? t = some i := by
  unfold has at h
  rw [Bool.and_eq_true] at h
  exact Option.isSome_iff_exists.1 h.1
theorem has_under {t : TypeId} (h : has P t = true) : ∃ d, P.underlying t = some d := by
  unfold has at h
  rw [Bool.and_eq_true] at h
  exact Option.isSome_iff_exists.1 h.2
theorem run_size {t : TypeId} (h : has P t = true) (w : World) : (sizeOf t).run P w = .ok (P.cellsOf t) w := by
  obtain ⟨i, hi⟩ := has_info h
  simp [sizeOf, typeInfo, hi, Program.cellsOf]
theorem run_agg {t : TypeId} (h : has P t = true) (w : World) : (isAgg t).run P w = .ok (isAggB P t) w := by
  obtain ⟨d, hd⟩ := has_under h
  unfold isAgg
  rw [Sem.run_bind, run_underlying hd, Result.andThen_ok]
  unfold isAggB
  rw [hd]
  cases d <;> rfl
variable {φ : Env} {w : World}
theorem part_spec {agg : Bool} {l : List AV} {off n : Nat} {v : AV} (h : part agg l off n = some v) :
    ∃ r, r = (l.drop off).take n ∧ r.length = n ∧ ((agg = true ∧ v = .agg r) ∨ (agg = false ∧ r = [v])) := by
  unfold part at h
  split at h
  · cases h
  · rename_i r hr
    obtain ⟨e1, e2⟩ := cut_spec hr
    refine ⟨r, e1, e2, ?_⟩
    cases agg with
    | true => simp at h; exact .inl ⟨rfl, h.symm⟩
    | false =>
      simp at h
      split at h
      · cases h; exact .inr ⟨rfl, rfl⟩
      · cases h
theorem load_ok {t : TypeId} (ht : has P t = true) {l : List AV} {B o off : Nat} (hm : VRm φ w l B o) {v : AV} (hp : part (isAggB P t) l off (P.cellsOf t) = some v) :
    ∃ u, (loadVar t ⟨B, o + off, none⟩).run P w = .ok u w ∧ VR φ w v u := by
  obtain ⟨r, e1, e2, e3⟩ := part_spec hp
  have hm' := (hm.drop off).take (P.cellsOf t)
  rw [← e1] at hm'
  unfold loadVar
  rw [Sem.run_bind, run_agg ht, Result.andThen_ok]
  rcases e3 with ⟨ha, rfl⟩ | ⟨ha, rfl⟩
  · rw [ha]
    obtain ⟨us, h1, h2⟩ := hm'.vals
    have hl := h1.length
    refine ⟨.agg us.toArray, ?_, .agg (by simpa using h1)⟩
    simp only [if_true, Sem.run_bind, run_size ht, Result.andThen_ok]
    have := run_loadCells_list (P := P) w ⟨B, o + off, none⟩ us fun j u hj => by rw [add_none]; exact h2 j u hj
    rw [← hl, e2] at this
    rw [this]
    rfl
  · rw [ha]
    cases hm' with
    | cons hc h t =>
      refine ⟨_, ?_, h⟩
      simp only [Bool.false_eq_true, if_false, run_load, hc]
theorem store_ok {t : TypeId} (ht : has P t = true) {H H' : Heap} (hr : HR φ w H) {b B o off : Nat} (hb : φ b = some (B, o)) {x : AV} {u : Value} (hv : VR φ w x u) {c : List AV} (hc : x.cells = some c)
    (hn : c.length = P.cellsOf t) (e : writeAt H b off c = some H') :
    ∃ w', (storeVar t ⟨B, o + off, none⟩ u).run P w = .ok () w' ∧ HR φ w' H' ∧ UpdH φ w H φ w' H' := by
  have hcs := hv.cells hc
  obtain ⟨h1, h2, h3⟩ := hr_write hr hb e hcs
  obtain ⟨l, t', ver, _, _, hone, _⟩ := writeAt_spec e
  refine ⟨_, ?_, h1, updH_write hb e⟩
  unfold storeVar
  have hsz : u.cells.size = P.cellsOf t := by rw [← hn, hcs.length]; simp
  simp only [Sem.run_bind, run_size ht, Result.andThen_ok, hsz, ne_eq, not_true_eq_false, if_false]
  have := run_storeCells_cells (P := P) B (o + off) u.cells.toList 0 w (fun j hj => by simpa using h2 j hj) (fun j hj => by simpa using h3 j hj) (hcs.one hone)
  simpa using this
end
end Go.Proofs.Ytlemediphmnffaa.VM
namespace Go.Proofs.Ytlemediphmnffaa.VM
open Go.RowKit
/-- What an operation leaves: its value, its memory. -/
def Leaves (φ : Env) (w : World) (H : Heap) (r : Result Next) (v : AV) (h' : Heap) : Prop :=
  ∃ φ' n w', r = .ok n w' ∧ ((∃ u, n = .value u ∧ VR φ' w' v u) ∨ (n = .skip ∧ v = .undef)) ∧ HR φ' w' h' ∧ UpdH φ w H φ' w' h'
section
variable {P : Program} {φ : Env} {w : World} {H : Heap}
/-- It only tells a value. -/
theorem leaves_val (hr : HR φ w H) {s : Sem Value} {u : Value} {v : AV} (hs : s.run P w = .ok u w) (hv : VR φ w v u) :
    Leaves φ w H ((do pure (Next.value (← s)) : Sem Next).run P w) v H :=
  ⟨φ, .value u, w, by simp [hs], .inl ⟨u, rfl, hv⟩, hr, UpdH.refl _ _ _⟩
/-- It makes a block of cells. -/
theorem leaves_new (hr : HR φ w H) {nm : Nat} (hn : H.get nm = none) {l : List AV} {cs : Array Value} (hl : VRs φ w l cs.toList) (e e' : TypeId) (ver : Nat) {s : Sem Value} {u : Value} {v : AV}
    (hs : s.run P w = .ok u (w.alloc (.cells cs e'))) (hv : VR (φ.at nm (w.heap.size, 0)) (w.alloc (.cells cs e')) v u) :
    Leaves φ w H ((do pure (Next.value (← s)) : Sem Next).run P w) v (H.mk' nm (.cells l e ver)) := by
  have hφ : φ nm = none := by have := hr.blk nm; rw [hn] at this; exact this
  exact ⟨_, .value u, _, by simp [hs], .inl ⟨u, rfl, hv⟩, hr_alloc hr hn (br_new hl hφ e e' ver), updH_alloc hr hn _ _⟩
theorem at_self (nm : Nat) (p : Nat × Nat) : (φ.at nm p) nm = some p := by unfold Env.at; rw [if_pos rfl]
theorem shape_new (cs : Array Value) (e : TypeId) : (w.alloc (.cells cs e)).shape? w.heap.size = some (e, cs.size) := by
  unfold World.shape?
  rw [heap_alloc_new]
theorem zero_spec {t : TypeId} {l : List AV} (h : zeroC P t = some l) : ∃ i v, P.info? t = some i ∧ i.zero = some v ∧ v.cells.size = i.size ∧ l.length = i.size ∧ VRs φ w l v.cells.toList := by
  unfold zeroC at h
  split at h
  · rename_i i hi
    split at h
    · rename_i v hv
      split at h
      · rename_i l' hl
        split at h
        · rename_i c
          cases h
          rw [Option.bind_eq_some_iff] at hl
          obtain ⟨a, ha, hc⟩ := hl
          exact ⟨i, v, hi, hv, c.2, c.1, (avOf_ok ha).cells hc⟩
        · cases h
      · cases h
    · cases h
  · cases h
theorem run_zero {t : TypeId} {i : TypeInfo} {v : Value} (h1 : P.info? t = some i) (h2 : i.zero = some v) : (zeroValue t).run P w = .ok v w := by
  simp [zeroValue, typeInfo, h1, h2]
theorem op_alloc (hr : HR φ w H) {nm : Nat} (hn : H.get nm = none) {t : TypeId} {l : List AV} (h : zeroC P t = some l) :
    Leaves φ w H ((do pure (Next.value (← Instr.alloc t true (.tuple #[]))) : Sem Next).run P w) (.ptr nm 0) (H.mk' nm (.cells l t 0)) := by
  obtain ⟨i, v, h1, h2, _, _, h5⟩ := zero_spec (φ := φ) (w := w) h
  refine leaves_new (u := .pointer (some ⟨w.heap.size, 0, none⟩)) hr hn h5 t t 0 ?_ (.ptr (o := 0) (off := 0) (at_self _ _))
  simp [Instr.alloc, run_zero h1 h2, newVar, newRow]
theorem op_box (hr : HR φ w H) {nm : Nat} (hn : H.get nm = none) (t : TypeId) {x : AV} {u : Value} {l : List AV} (hx : VR φ w x u) (hl : x.cells = some l) :
    Leaves φ w H ((do pure (Next.value (← Instr.box t u)) : Sem Next).run P w) (.ptr nm 0) (H.mk' nm (.cells l t 0)) := by
  refine leaves_new (u := .pointer (some ⟨w.heap.size, 0, none⟩)) hr hn (hx.cells hl) t t 0 ?_ (.ptr (o := 0) (off := 0) (at_self _ _))
  simp [Instr.box, newVar, newRow]
theorem op_load (hr : HR φ w H) {t : TypeId} (ht : has P t = true) {x v : AV} {u : Value} (hx : VR φ w x u)
    (h : (match x with
      | .ptr b off => match H.get b with
        | some (.cells l _ _) => part (isAggB P t) l off (P.cellsOf t)
        | _ => none
      | .rp l => part (isAggB P t) l 0 (P.cellsOf t)
      | _ => none) = some v) : Leaves φ w H ((do pure (Next.value (← Instr.loadAt t u)) : Sem Next).run P w) v H := by
  cases hx <;> simp only at h <;> try (cases h; done)
  case ptr b off B o hb =>
    split at h
    · rename_i l e ver hg
      obtain ⟨B', o', e', n, h1, h2, h3, h4, _⟩ := hr.cells hg
      rw [hb] at h1
      cases h1
      obtain ⟨u, hu, hv⟩ := load_ok ht h3 h
      exact leaves_val hr (by simp [Instr.loadAt, Instr.sureAddr, hu]) hv
    · cases h
  case rp l B off hB hlt hm =>
    obtain ⟨u, hu, hv⟩ := load_ok ht hm h
    exact leaves_val hr (by simpa [Instr.loadAt, Instr.sureAddr] using hu) hv
theorem op_store (hr : HR φ w H) {t : TypeId} (ht : has P t = true) {b off : Nat} {x : AV} {pu u : Value} {c : List AV} {H' : Heap} (hp : VR φ w (.ptr b off) pu) (hx : VR φ w x u) (hc : x.cells = some c)
    (hn : c.length = P.cellsOf t) (e : writeAt H b off c = some H') :
    Leaves φ w H ((do Instr.storeAt t pu u; pure Next.skip : Sem Next).run P w) .undef H' := by
  cases hp with
  | ptr hb =>
    obtain ⟨w', h1, h2, h3⟩ := store_ok ht hr hb hx hc hn e
    exact ⟨φ, .skip, w', by simp [Instr.storeAt, Instr.sureAddr, h1], .inr ⟨rfl, rfl⟩, h2, h3⟩
theorem op_faddr (hr : HR φ w H) {s : TypeId} {fs : Array Field} {i : Nat} {f : Field} (hs : P.underlying s = some (.struct fs)) (hf : fs[i]? = some f) (ht : has P f.type = true) (hz : P.cellsOf f.type ≠ 0)
    {x v : AV} {u : Value} (hx : VR φ w x u)
    (h : (match x with
      | .ptr b o => some (AV.ptr b (o + f.offset))
      | .rp l => some (AV.rp (l.drop f.offset))
      | _ => none) = some v) : Leaves φ w H ((do pure (Next.value (← Instr.fieldAt s u i)) : Sem Next).run P w) v H := by
  cases hx <;> simp only at h <;> try (cases h; done)
  case ptr b off B o hb =>
    cases h
    refine leaves_val hr (u := .pointer (some ⟨B, o + (off + f.offset), none⟩)) ?_ (.ptr hb)
    simp [Instr.fieldAt, run_underlying hs, hf, Instr.sureAddr, fieldPlace, run_size ht, hz, add_none, Nat.add_assoc]
  case rp l B off hB hlt hm =>
    cases h
    refine leaves_val hr (u := .pointer (some ⟨B, off + f.offset, none⟩)) ?_ (.rp hB hlt (hm.drop _))
    simp [Instr.fieldAt, run_underlying hs, hf, Instr.sureAddr, fieldPlace, run_size ht, hz, add_none]
theorem part_ok {t : TypeId} (ht : has P t = true) {l : List AV} {vs : Array Value} (hm : VRs φ w l vs.toList) {off : Nat} {v : AV} (hp : part (isAggB P t) l off (P.cellsOf t) = some v) :
    ∃ u, (Go.part t vs off).run P w = .ok u w ∧ VR φ w v u := by
  obtain ⟨r, e1, e2, e3⟩ := part_spec hp
  have hm' := (hm.drop off).take (P.cellsOf t)
  rw [← e1] at hm'
  unfold Go.part
  rw [Sem.run_bind, run_agg ht, Result.andThen_ok]
  rcases e3 with ⟨ha, rfl⟩ | ⟨ha, rfl⟩
  · rw [ha]
    refine ⟨.agg (vs.extract off (off + P.cellsOf t)), by simp [run_size ht], .agg ?_⟩
    have : (vs.extract off (off + P.cellsOf t)).toList = (vs.toList.drop off).take (P.cellsOf t) := by
      simp [Array.toList_extract, List.extract]
    rw [this]
    exact hm'
  · rw [ha]
    simp only [List.length_cons, List.length_nil, Nat.zero_add] at e2
    rw [← e2] at hm'
    generalize hq : (vs.toList.drop off).take 1 = q at hm'
    cases hm' with
    | cons h t =>
      rename_i u vs'
      have hu : vs[off]? = some u := by
        have : ((vs.toList.drop off).take 1)[0]? = some u := by rw [hq]; rfl
        rw [List.getElem?_take_of_lt (by omega), List.getElem?_drop] at this
        simpa using this
      exact ⟨u, by simp [hu], h⟩
theorem op_field (hr : HR φ w H) {s : TypeId} {fs : Array Field} {i : Nat} {f : Field} (hs : P.underlying s = some (.struct fs)) (hf : fs[i]? = some f) (ht : has P f.type = true)
    {l : List AV} {v : AV} {u : Value} (hx : VR φ w (.agg l) u) (h : part (isAggB P f.type) l f.offset (P.cellsOf f.type) = some v) :
    Leaves φ w H ((do pure (Next.value (← Instr.field s u i)) : Sem Next).run P w) v H := by
  cases hx with
  | agg hl =>
    obtain ⟨u, hu, hv⟩ := part_ok ht hl h
    exact leaves_val hr (by simp [Instr.field, run_underlying hs, hf, asAgg, hu]) hv
theorem op_extract (hr : HR φ w H) {l : List AV} {v : AV} {u : Value} {i : Nat} (hx : VR φ w (.tup l) u) (h : l[i]? = some v) :
    Leaves φ w H ((do pure (Next.value (← Instr.extract u i)) : Sem Next).run P w) v H := by
  cases hx with
  | tup hl =>
    obtain ⟨u, hu, hv⟩ := hl.get h
    refine leaves_val hr (u := u) ?_ hv
    have hu' := by simpa using hu
    simp [Instr.extract, hu']
theorem bitsOf_eq (op : BinOp) (k : IntKind) (x y : Int) (h : op = .and ∨ op = .or ∨ op = .xor ∨ op = .andNot) : bitsOf op k x y = Go.bits op k x y := by
  have e : ∀ z : Int, (z % 2 ^ k.bits).toNat = (BitVec.ofInt k.bits z).toNat := fun z => by
    rw [BitVec.toNat_ofInt]; norm_cast
  unfold bitsOf Go.bits
  rw [e x, e y]
  rcases h with rfl | rfl | rfl | rfl
  · show k.wrap ((Nat.land _ _ : Nat) : Int) = k.wrap ((_ &&& _ : BitVec k.bits).toNat : Int)
    rw [BitVec.toNat_and]; rfl
  · show k.wrap ((Nat.lor _ _ : Nat) : Int) = k.wrap ((_ ||| _ : BitVec k.bits).toNat : Int)
    rw [BitVec.toNat_or]; rfl
  · show k.wrap ((Nat.xor _ _ : Nat) : Int) = k.wrap ((_ ^^^ _ : BitVec k.bits).toNat : Int)
    rw [BitVec.toNat_xor]; rfl
  · show k.wrap ((Nat.land _ (2 ^ k.bits - 1 - _) : Nat) : Int) = k.wrap ((_ &&& ~~~_ : BitVec k.bits).toNat : Int)
    rw [BitVec.toNat_and, BitVec.toNat_not]; rfl
theorem run_intBits (op : BinOp) (k : IntKind) (x y : Int) (h : op = .and ∨ op = .or ∨ op = .xor ∨ op = .andNot) : Op.intBits op k x y = pure (.int k (bitsOf op k x y)) := by
  rw [bitsOf_eq op k x y h]
  rcases h with rfl | rfl | rfl | rfl <;> rfl
theorem binInt_ok {op : BinOp} {k : IntKind} {x y : Int} {v : AV} (t : TypeId) (h : binInt op k x y = some v) :
    ∃ u, Go.binOp op t (.int k x) (.int k y) = pure u ∧ VR φ w v u := by
  cases op <;> simp only [binInt] at h
  case add => cases h; exact ⟨_, by simp [Go.binOp, Op.intArith], .int _ _⟩
  case sub => cases h; exact ⟨_, by simp [Go.binOp, Op.intArith], .int _ _⟩
  case mul => cases h; exact ⟨_, by simp [Go.binOp, Op.intArith], .int _ _⟩
  case quo =>
    split at h
    · cases h
    · rename_i hy; cases h; exact ⟨_, by simp [Go.binOp, Op.intDiv, hy], .int _ _⟩
  case rem =>
    split at h
    · cases h
    · rename_i hy; cases h; exact ⟨_, by simp [Go.binOp, Op.intDiv, hy], .int _ _⟩
  case and => cases h; exact ⟨_, by simp only [Go.binOp, ne_eq, not_true_eq_false, if_false]; exact run_intBits _ _ _ _ (.inl rfl), .int _ _⟩
  case or => cases h; exact ⟨_, by simp only [Go.binOp, ne_eq, not_true_eq_false, if_false]; exact run_intBits _ _ _ _ (.inr (.inl rfl)), .int _ _⟩
  case xor => cases h; exact ⟨_, by simp only [Go.binOp, ne_eq, not_true_eq_false, if_false]; exact run_intBits _ _ _ _ (.inr (.inr (.inl rfl))), .int _ _⟩
  case andNot => cases h; exact ⟨_, by simp only [Go.binOp, ne_eq, not_true_eq_false, if_false]; exact run_intBits _ _ _ _ (.inr (.inr (.inr rfl))), .int _ _⟩
  case eql => cases h; exact ⟨.bool (decide (x = y)), by simp [Go.binOp, Op.intCmp]; rfl, .bool _⟩
  case neq => cases h; exact ⟨.bool (!decide (x = y)), by simp [Go.binOp, Op.intCmp]; rfl, .bool _⟩
  case lss => cases h; exact ⟨_, by simp [Go.binOp, Op.intCmp], .bool _⟩
  case leq => cases h; exact ⟨_, by simp [Go.binOp, Op.intCmp], .bool _⟩
  case gtr => cases h; exact ⟨_, by simp [Go.binOp, Op.intCmp], .bool _⟩
  case geq => cases h; exact ⟨_, by simp [Go.binOp, Op.intCmp], .bool _⟩
  all_goals cases h
abbrev tx (s : ByteArray) : List Nat := s.data.toList.map fun c => c.toNat
theorem tx_inj {a b : List UInt8} : (a.map fun c : UInt8 => c.toNat) = (b.map fun c : UInt8 => c.toNat) ↔ a = b := by
  constructor
  · intro h
    exact List.map_inj_right (fun x y e => UInt8.toNat_inj.1 e) |>.1 h
  · rintro rfl; rfl
theorem strLess_ok : ∀ a b : List UInt8, strLess (a.map fun c => c.toNat) (b.map fun c => c.toNat) = Op.bytesLess a b
  | _, [] => by cases ‹List UInt8› <;> rfl
  | [], _ :: _ => rfl
  | x :: a, y :: b => by
    simp only [List.map_cons, strLess, Op.bytesLess, strLess_ok a b, T.beq_dec]
    have e1 : Nat.blt x.toNat y.toNat = decide (x < y) := by
      rw [Bool.eq_iff_iff, decide_eq_true_eq, UInt8.lt_iff_toNat_lt]
      rw [Nat.blt_eq]
    have e2 : decide (x.toNat = y.toNat) = (x == y) := by
      rw [Bool.eq_iff_iff, decide_eq_true_eq, beq_iff_eq, UInt8.toNat_inj]
    rw [e1, e2]
theorem toList_data (s : ByteArray) : s.toList = s.data.toList := ByteArray.toList_eq s
theorem tx_append (a b : ByteArray) : tx (a ++ b) = tx a ++ tx b := by
  simp [tx, ByteArray.data_append]
theorem tx_length (a : ByteArray) : (tx a).length = a.size := by simp [tx]
theorem binStr_ok {op : BinOp} {a b : ByteArray} {v : AV} (t : TypeId) (h : binStr op (tx a) (tx b) = some v) :
    ∃ u, Go.binOp op t (.string a) (.string b) = pure u ∧ VR φ w v u := by
  have eeq : (tx a == tx b) = (a.toList == b.toList) := by
    rw [Bool.eq_iff_iff, beq_iff_eq, beq_iff_eq, toList_data, toList_data]
    exact tx_inj
  have elt : strLess (tx a) (tx b) = Op.bytesLess a.toList b.toList := by
    rw [toList_data, toList_data]; exact strLess_ok _ _
  unfold binStr at h
  rw [eeq, elt] at h
  cases op <;> simp only at h
  case add =>
    split at h
    · rename_i hlt
      cases h
      refine ⟨.string (a ++ b), ?_, by rw [← tx_append]; exact .str _⟩
      rw [tx_length, tx_length] at hlt
      have : ¬ (((a.size + b.size : Nat) : Int) > IntKind.i64.max) := by
        have : IntKind.i64.max = 9223372036854775807 := by decide
        rw [this]; omega
      simp only [Go.binOp, Op.stringOp]
      rw [if_neg this]
    · cases h
  case eql => cases h; exact ⟨_, by simp only [Go.binOp, Op.stringOp], .bool _⟩
  case neq => cases h; exact ⟨_, by simp only [Go.binOp, Op.stringOp], .bool _⟩
  case lss => cases h; exact ⟨_, by simp only [Go.binOp, Op.stringOp], .bool _⟩
  case leq => cases h; exact ⟨_, by simp only [Go.binOp, Op.stringOp], .bool _⟩
  case gtr => cases h; exact ⟨_, by simp only [Go.binOp, Op.stringOp], .bool _⟩
  case geq => cases h; exact ⟨_, by simp only [Go.binOp, Op.stringOp], .bool _⟩
  all_goals cases h
theorem bin_ok {op : BinOp} {x y v : AV} {u u' : Value} (t : TypeId) (hx : VR φ w x u) (hy : VR φ w y u') (h : bin op x y = some v) :
    ∃ r, Go.binOp op t u u' = pure r ∧ VR φ w v r := by
  cases hx <;> cases hy <;> simp only [bin] at h <;> try (cases h; done)
  case int.int k a k' b =>
    by_cases e : op = .shl
    · subst e
      simp only at h
      split at h
      · cases h
      · rename_i hb
        cases h
        refine ⟨_, ?_, .int _ _⟩
        simp [Go.binOp, Op.shift, hb]
    · by_cases e' : op = .shr
      · subst e'
        simp only at h
        split at h
        · cases h
        · rename_i hb
          cases h
          refine ⟨_, ?_, .int _ _⟩
          simp [Go.binOp, Op.shift, hb]
      · have h' : (if k = k' then binInt op k a b else none) = some v := by
          cases op <;> first | exact h | (exact absurd rfl e) | (exact absurd rfl e')
        split at h'
        · rename_i ek
          subst ek
          exact binInt_ok t h'
        · cases h'
  case str.str a b => exact binStr_ok t h
end
end Go.Proofs.Ytlemediphmnffaa.VM
namespace Go.Proofs.Ytlemediphmnffaa.VM
open Go.RowKit
section
variable {P : Program} {φ : Env} {w : World} {H : Heap}
theorem un_ok {op : UnOp} {x v : AV} {u : Value} (hx : VR φ w x u) (h : un op x = some v) : ∃ r, Op.unary op u = pure r ∧ VR φ w v r := by
  cases hx <;> simp only [un] at h <;> try (cases h; done)
  case bool b => cases op <;> simp only at h <;> first | (cases h; done) | (cases h; exact ⟨_, rfl, .bool _⟩)
  case int k n =>
    cases op <;> simp only at h
    case neg => cases h; exact ⟨_, by simp [Op.unary, Op.intArith], .int _ _⟩
    case xor =>
      cases h
      refine ⟨_, ?_, .int _ _⟩
      simp only [Op.unary]
      exact run_intBits _ _ _ _ (.inr (.inr (.inl rfl)))
    all_goals cases h
/-- Perhaps a value. -/
def VRo (φ : Env) (w : World) : Option AV → Option Value → Prop
  | none, none => True
  | some x, some v => VR φ w x v
  | _, _ => False
theorem natOf_ok {x : AV} {u : Value} (hx : VR φ w x u) {y n : Nat} (h : natOf x y = some n) : ∃ k i, u = .int k i ∧ 0 ≤ i ∧ i ≤ y ∧ i.toNat = n := by
  cases hx <;> simp only [natOf] at h <;> try (cases h; done)
  split at h
  · rename_i c
    cases h
    exact ⟨_, _, rfl, c.1, c.2, rfl⟩
  · cases h
theorem bound_ok {x : AV} {u : Value} (hx : VR φ w x u) {y y' n : Nat} (hy : y ≤ y') (h : natOf x y = some n) (c : BoundsCode) : (Instr.sliceBound u y' c).run P w = .ok n w ∧ n ≤ y := by
  obtain ⟨k, i, rfl, h0, h1, rfl⟩ := natOf_ok hx h
  refine ⟨?_, by omega⟩
  have : 0 ≤ i ∧ i ≤ (y' : Int) := ⟨h0, by omega⟩
  simp [Instr.sliceBound, asIntOf, this]
theorem bounds_ok {len cap c : Nat} (hl : len ≤ cap) (hc : cap ≤ c) {lo hi mx : Option AV} {lo' hi' mx' : Option Value} (h1 : VRo φ w lo lo') (h2 : VRo φ w hi hi') (h3 : VRo φ w mx mx') {l h m : Nat}
    (e : bounds len cap lo hi mx = some (l, h, m)) (b : Bool) : ∃ m', (Instr.sliceBounds b len c lo' hi' mx').run P w = .ok (l, h, m') w ∧ m ≤ m' ∧ m' ≤ c ∧ l ≤ h ∧ h ≤ m ∧ (cap = c → m' = m) := by
  unfold bounds at e
  split at e
  · cases e
  · rename_i m0 hm0
    split at e
    · cases e
    · rename_i h0 hh0
      split at e
      · cases e
      · rename_i l0 hl0
        cases e
        -- max
        have A : ∃ m', (match mx' with | some v => Instr.sliceBound v c (if b then .slice3Acap else .slice3Alen) | none => pure c : Sem Nat).run P w = .ok m' w ∧ m ≤ m' ∧ m' ≤ c ∧ m ≤ cap ∧ (cap = c → m' = m) ∧ (mx.isSome = true → m' = m) ∧ (mx = none → m = cap) := by
          cases mx with
          | none =>
            cases mx' with
            | none => simp at hm0; subst hm0; exact ⟨c, rfl, hc, Nat.le_refl _, Nat.le_refl _, fun e => e.symm, by simp, fun _ => rfl⟩
            | some _ => exact h3.elim
          | some x =>
            cases mx' with
            | none => exact h3.elim
            | some v =>
              obtain ⟨g1, g2⟩ := bound_ok (P := P) h3 hc hm0 (if b then .slice3Acap else .slice3Alen)
              exact ⟨m, g1, Nat.le_refl _, by omega, g2, fun _ => rfl, fun _ => rfl, by simp⟩
        obtain ⟨m', a1, a2, a3, a4, a5, a6, a7⟩ := A
        have B : (match hi', mx' with
            | some v, some _ => Instr.sliceBound v m' .slice3B
            | some v, none => Instr.sliceBound v m' (if b then .sliceAcap else .sliceAlen)
            | none, none => pure len
            | none, some _ => stuck "Slice: max without high" : Sem Nat).run P w = .ok h w ∧ h ≤ m := by
          cases hi with
          | none =>
            cases hi' with
            | some _ => exact h2.elim
            | none =>
              simp only at hh0
              cases mx with
              | some _ => simp at hh0
              | none =>
                cases mx' with
                | some _ => exact h3.elim
                | none => simp at hh0; subst hh0; exact ⟨rfl, by rw [a7 rfl]; exact hl⟩
          | some x =>
            cases hi' with
            | none => exact h2.elim
            | some v =>
              simp only at hh0
              cases mx' with
              | none => exact bound_ok (P := P) h2 a2 hh0 _
              | some _ => exact bound_ok (P := P) h2 a2 hh0 _
        have C : (match lo' with | some v => Instr.sliceBound v h (if mx'.isSome then .slice3C else .sliceB) | none => pure 0 : Sem Nat).run P w = .ok l w ∧ l ≤ h := by
          cases lo with
          | none =>
            cases lo' with
            | some _ => exact h1.elim
            | none => simp at hl0; subst hl0; exact ⟨rfl, Nat.zero_le _⟩
          | some x =>
            cases lo' with
            | none => exact h1.elim
            | some v => exact bound_ok (P := P) h1 (Nat.le_refl _) hl0 _
        refine ⟨m', ?_, a2, a3, C.2, B.2, a5⟩
        cases mx' <;> cases hi' <;> cases lo' <;> simp only at a1 B C <;> simp [Instr.sliceBounds] <;> simp_all [stuck]
theorem tx_extract (s : ByteArray) (l h : Nat) : tx (s.extract l h) = ((tx s).drop l).take (h - l) := by
  simp only [tx, ByteArray.data_extract, Array.toList_extract, List.extract, List.map_take, List.map_drop]
theorem op_slice_slice (hr : HR φ w H) {t e : TypeId} (ht : P.underlying t = some (.slice e)) (he : has P e = true) {x v : AV} {u : Value} (hx : VR φ w x u) {lo hi mx : Option AV} {lo' hi' mx' : Option Value}
    (h1 : VRo φ w lo lo') (h2 : VRo φ w hi hi') (h3 : VRo φ w mx mx') (h : sliceV (P.cellsOf e) x lo hi mx = some v) :
    Leaves φ w H ((do pure (Next.value (← Instr.sliceAt t u lo' hi' mx')) : Sem Next).run P w) v H := by
  cases hx <;> simp only [sliceV] at h <;> try (cases h; done)
  case sl b off len cap sz B o c n ty hb hc hl hs hr' =>
    rw [T.beq_dec] at h
    by_cases esz : sz = P.cellsOf e
    · rw [decide_eq_true esz, cond_true] at h
      split at h
      · rename_i l hh m hbd
        cases h
        obtain ⟨m', g1, g2, g3, g4, g5, _⟩ := bounds_ok (P := P) hl hc h1 h2 h3 hbd true
        refine leaves_val hr (u := .slice (if m' = l then some ⟨B, o + off, none⟩ else some ⟨B, o + off + l * P.cellsOf e, none⟩) (hh - l) (m' - l)) ?_ ?_
        · simp only [Instr.sliceAt, Sem.run_bind, run_underlying ht, Result.andThen_ok, Instr.slice, g1, run_size he, Sem.run_pure]
          congr 2
          split
          · rfl
          · simp [add_none]
        · by_cases em : m' = l
          · rw [if_pos em]
            have e1 : hh - l = 0 := by omega
            have e2 : m - l = 0 := by omega
            have e3 : m' - l = 0 := by omega
            rw [e1, e2, e3]
            exact .sl0 _
          · rw [if_neg em]
            subst esz
            rw [show o + off + l * P.cellsOf e = o + (off + l * P.cellsOf e) by omega]
            refine .sl hb (by omega) (by omega) hs ⟨?_, by omega⟩
            have : (m' - l) * P.cellsOf e + l * P.cellsOf e ≤ c * P.cellsOf e := by rw [← Nat.add_mul]; exact Nat.mul_le_mul_right _ (by omega)
            omega
      · cases h
    · rw [decide_eq_false esz, cond_false] at h; cases h
  case sl0 b off sz a =>
    rw [T.beq_dec] at h
    by_cases esz : sz = P.cellsOf e
    · rw [decide_eq_true esz, cond_true] at h
      split at h
      · rename_i l hh m hbd
        cases h
        obtain ⟨m', g1, g2, g3, g4, g5, _⟩ := bounds_ok (P := P) (Nat.le_refl 0) (Nat.le_refl 0) h1 h2 h3 hbd true
        have e0 : m' = 0 := by omega
        have e1 : m = 0 := by omega
        have e2 : l = 0 := by omega
        have e3 : hh = 0 := by omega
        subst e0 e1 e2 e3
        refine leaves_val hr (u := .slice (some a) 0 0) ?_ (.sl0 a)
        simp [Instr.sliceAt, run_underlying ht, Instr.slice, g1, run_size he]
      · cases h
    · rw [decide_eq_false esz, cond_false] at h; cases h
  case nils =>
    split at h
    · rename_i r hbd
      cases h
      obtain ⟨l, hh, m⟩ := r
      obtain ⟨m', g1, g2, g3, g4, g5, _⟩ := bounds_ok (P := P) (Nat.le_refl 0) (Nat.le_refl 0) h1 h2 h3 hbd true
      have e0 : m' = 0 := by omega
      have e2 : l = 0 := by omega
      have e3 : hh = 0 := by omega
      subst e0 e2 e3
      refine leaves_val hr (u := .slice none 0 0) ?_ .nils
      simp [Instr.sliceAt, run_underlying ht, Instr.slice, g1, run_size he]
    · cases h
  case rs cs len B off c hl hB hlt hm =>
    split at h
    · rename_i l hh m hbd
      cases h
      cases mx with
      | some _ => simp at hbd
      | none =>
        simp only [Option.isSome_none, Bool.false_eq_true, if_false] at hbd
        obtain ⟨m', g1, g2, g3, g4, g5, _⟩ := bounds_ok (P := P) (Nat.le_refl len) hl h1 h2 h3 hbd true
        refine leaves_val hr (u := .slice (if m' = l then some ⟨B, off, none⟩ else some ⟨B, off + l * P.cellsOf e, none⟩) (hh - l) (m' - l)) ?_ ?_
        · simp only [Instr.sliceAt, Sem.run_bind, run_underlying ht, Result.andThen_ok, Instr.slice, g1, run_size he, Sem.run_pure]
          congr 2
          split
          · rfl
          · simp [add_none]
        · by_cases em : m' = l
          · rw [if_pos em]
            have e1 : hh - l = 0 := by omega
            rw [e1, Nat.zero_mul, List.take_zero]
            exact .rs (Nat.zero_le _) hB hlt .nil
          · rw [if_neg em]
            exact .rs (by omega) hB hlt ((hm.drop _).take _)
    · cases h
  case rs0 a c =>
    split at h
    · rename_i l hh m hbd
      cases h
      cases mx with
      | some _ => simp at hbd
      | none =>
        simp only [Option.isSome_none, Bool.false_eq_true, if_false] at hbd
        obtain ⟨m', g1, g2, g3, g4, g5, _⟩ := bounds_ok (P := P) (Nat.le_refl 0) (Nat.zero_le c) h1 h2 h3 hbd true
        have hm0 : m = 0 := by
          unfold bounds at hbd
          simp only at hbd
          split at hbd
          · cases hbd
          · split at hbd
            · cases hbd
            · cases hbd; rfl
        have e2 : l = 0 := by omega
        have e3 : hh = 0 := by omega
        subst e2 e3
        refine leaves_val hr (u := .slice (if m' = 0 then some a else some (a.add (0 * P.cellsOf e))) 0 m') ?_ ?_
        · simp only [Instr.sliceAt, Sem.run_bind, run_underlying ht, Result.andThen_ok, Instr.slice, g1, run_size he, Sem.run_pure]
          congr 2
        · simp only [List.drop_nil, List.take_nil, Nat.sub_self]
          split <;> exact .rs0 _ _
    · cases h
theorem op_sliceS (hr : HR φ w H) {t : TypeId} (ht : P.underlying t = some .string) {x v : AV} {u : Value} (hx : VR φ w x u) {lo hi : Option AV} {lo' hi' : Option Value}
    (h1 : VRo φ w lo lo') (h2 : VRo φ w hi hi') (h : sliceS x lo hi = some v) :
    Leaves φ w H ((do pure (Next.value (← Instr.sliceAt t u lo' hi' none)) : Sem Next).run P w) v H := by
  cases hx <;> simp only [sliceS] at h <;> try (cases h; done)
  case str s =>
    split at h
    · rename_i l hh m hbd
      cases h
      rw [show (List.map (fun c : UInt8 => c.toNat) s.data.toList).length = s.size from tx_length s] at hbd
      obtain ⟨m', g1, g2, g3, g4, g5, _⟩ := bounds_ok (P := P) (Nat.le_refl s.size) (Nat.le_refl s.size) h1 h2 (show VRo φ w none none from trivial) hbd false
      refine leaves_val hr (u := .string (s.extract l hh)) ?_ ?_
      · simp [Instr.sliceAt, run_underlying ht, Instr.slice, g1]
      · have := VR.str (φ := φ) (w := w) (s.extract l hh)
        rw [show (List.map (fun c : UInt8 => c.toNat) (s.extract l hh).data.toList) = _ from tx_extract s l hh] at this
        exact this
    · cases h
theorem op_slice_arr (hr : HR φ w H) {t e : TypeId} {n : Nat} (ht : P.underlying t = some (.array n e)) (he : has P e = true) (hn63 : n ≤ 16777216) {x v : AV} {u : Value} (hx : VR φ w x u) {lo hi mx : Option AV} {lo' hi' mx' : Option Value}
    (h1 : VRo φ w lo lo') (h2 : VRo φ w hi hi') (h3 : VRo φ w mx mx') (h : sliceA H (P.cellsOf e) n x lo hi mx = some v) :
    Leaves φ w H ((do pure (Next.value (← Instr.sliceAt t u lo' hi' mx')) : Sem Next).run P w) v H := by
  cases hx <;> simp only [sliceA] at h <;> try (cases h; done)
  case ptr b off B o hb =>
    split at h
    · rename_i l0 e0 ver hg
      split at h
      · rename_i hle
        split at h
        · rename_i l hh m hbd
          cases h
          obtain ⟨B', o', e', n', q1, q2, q3, q4, hroom⟩ := hr.cells hg
          rw [hb] at q1
          cases q1
          obtain ⟨m', g1, g2, g3, g4, g5, g6⟩ := bounds_ok (P := P) (Nat.le_refl n) (Nat.le_refl n) h1 h2 h3 hbd false
          have em := g6 rfl
          subst em
          refine leaves_val hr (u := .slice (if m' = l then some ⟨B, o + off, none⟩ else some ⟨B, o + off + l * P.cellsOf e, none⟩) (hh - l) (m' - l)) ?_ ?_
          · simp only [Instr.sliceAt, Sem.run_bind, run_underlying ht, Result.andThen_ok, Instr.sureAddr, Sem.run_pure, g1, run_size he]
            congr 2
            split
            · rfl
            · simp [add_none]
          · by_cases em : m' = l
            · rw [if_pos em]
              have e1 : hh - l = 0 := by omega
              have e2 : m' - l = 0 := by omega
              rw [e1, e2]
              exact .sl0 _
            · rw [if_neg em]
              rw [show o + off + l * P.cellsOf e = o + (off + l * P.cellsOf e) by omega]
              refine .sl hb (Nat.le_refl _) (by omega) q2 ⟨?_, by omega⟩
              have : (m' - l) * P.cellsOf e + l * P.cellsOf e ≤ n * P.cellsOf e := by rw [← Nat.add_mul]; exact Nat.mul_le_mul_right _ (by omega)
              omega
        · cases h
      · cases h
    · cases h
theorem op_iaddr_slice (hr : HR φ w H) {t e : TypeId} (ht : P.underlying t = some (.slice e)) (he : has P e = true) {x v : AV} {u iv : Value} {k : IntKind} {i : Int} (hx : VR φ w x u) (hi : VR φ w (.int k i) iv)
    (h : (match x with
      | .sl b o len _ sz => if 0 ≤ i ∧ i < len ∧ sz = P.cellsOf e then some (AV.ptr b (o + i.toNat * P.cellsOf e)) else none
      | .rs l len => if 0 ≤ i ∧ i < len then some (AV.rp (l.drop (i.toNat * P.cellsOf e))) else none
      | _ => none) = some v) : Leaves φ w H ((do pure (Next.value (← Instr.indexAt t u iv)) : Sem Next).run P w) v H := by
  cases hi
  cases hx <;> simp only at h <;> try (cases h; done)
  case sl b off len cap sz B o c n ty hb hc hl hs hr' =>
    split at h
    · rename_i c
      cases h
      refine leaves_val hr (u := .pointer (some ⟨B, o + (off + i.toNat * P.cellsOf e), none⟩)) ?_ (.ptr hb)
      have cc : 0 ≤ i ∧ i < (len : Int) := ⟨c.1, c.2.1⟩
      simp [Instr.indexAt, asIntOf, run_underlying ht, cc, run_size he, add_none, Nat.add_assoc]
    · cases h
  case sl0 b off sz a =>
    split at h
    · rename_i c; omega
    · cases h
  case rs0 a c =>
    split at h
    · rename_i c; omega
    · cases h
  case rs cs len B off c hl hB hlt hm =>
    split at h
    · rename_i cc
      cases h
      refine leaves_val hr (u := .pointer (some ⟨B, off + i.toNat * P.cellsOf e, none⟩)) ?_ (.rp hB hlt (hm.drop _))
      simp [Instr.indexAt, asIntOf, run_underlying ht, cc, run_size he, add_none]
    · cases h
theorem op_iaddr_arr (hr : HR φ w H) {t e : TypeId} {n : Nat} (ht : P.underlying t = some (.array n e)) (he : has P e = true) {x v : AV} {u iv : Value} {k : IntKind} {i : Int} (hx : VR φ w x u) (hi : VR φ w (.int k i) iv)
    (h : (match x with
      | .ptr b o => if 0 ≤ i ∧ i < n then some (AV.ptr b (o + i.toNat * P.cellsOf e)) else none
      | _ => none) = some v) : Leaves φ w H ((do pure (Next.value (← Instr.indexAt t u iv)) : Sem Next).run P w) v H := by
  cases hi
  cases hx <;> simp only at h <;> try (cases h; done)
  case ptr b off B o hb =>
    split at h
    · rename_i c
      cases h
      refine leaves_val hr (u := .pointer (some ⟨B, o + (off + i.toNat * P.cellsOf e), none⟩)) ?_ (.ptr hb)
      simp [Instr.indexAt, asIntOf, run_underlying ht, c, run_size he, add_none, Nat.add_assoc, Instr.sureAddr]
    · cases h
theorem op_index_arr (hr : HR φ w H) {t e : TypeId} {n : Nat} (ht : P.underlying t = some (.array n e)) (he : has P e = true) {l : List AV} {v : AV} {u iv : Value} {k : IntKind} {i : Int} (hx : VR φ w (.agg l) u) (hi : VR φ w (.int k i) iv)
    (hc : 0 ≤ i ∧ i < n) (h : part (isAggB P e) l (i.toNat * P.cellsOf e) (P.cellsOf e) = some v) : Leaves φ w H ((do pure (Next.value (← Instr.index t u iv)) : Sem Next).run P w) v H := by
  cases hi
  cases hx with
  | agg hl =>
    obtain ⟨u, hu, hv⟩ := part_ok he hl h
    exact leaves_val hr (by simp [Instr.index, asIntOf, run_underlying ht, hc, run_size he, hu]) hv
theorem op_index_str (hr : HR φ w H) {t : TypeId} (ht : P.underlying t = some .string) {s : List Nat} {v : AV} {u iv : Value} {k : IntKind} {i : Int} (hx : VR φ w (.str s) u) (hi : VR φ w (.int k i) iv)
    (hc : 0 ≤ i) (h : (s[i.toNat]?).map (fun c : Nat => AV.int .u8 c) = some v) : Leaves φ w H ((do pure (Next.value (← Instr.index t u iv)) : Sem Next).run P w) v H := by
  cases hi
  cases hx with
  | str s =>
    rw [Option.map_eq_some_iff] at h
    obtain ⟨c, hc1, rfl⟩ := h
    rw [List.getElem?_map, Option.map_eq_some_iff] at hc1
    obtain ⟨b, hb, rfl⟩ := hc1
    have hb' : s[i.toNat]? = some b := by
      rw [Array.getElem?_toList] at hb
      exact hb
    refine leaves_val hr (u := .int .u8 b.toNat) ?_ (.int _ _)
    simp [Instr.index, asIntOf, run_underlying ht, hc, hb']
end
end Go.Proofs.Ytlemediphmnffaa.VM
namespace Go.Proofs.Ytlemediphmnffaa.VM
open Go.RowKit
section
variable {P : Program} {φ : Env} {w : World} {H : Heap}
theorem sameK_int {t : TypeId} {k0 : IntKind} (ht : P.underlying t = some (.int k0)) {x y : AV} {u v : Value} {b : Bool} (hx : VR φ w x u) (hy : VR φ w y v) (h : sameK .int x y = some b) (d : Nat) :
    (Op.equalIn (d + 1) t u v).run P w = .ok b w := by
  cases hx <;> cases hy <;> simp only [sameK] at h <;> try (cases h; done)
  case int.int k n k' m =>
    split at h
    · rename_i ek
      subst ek
      cases h
      rw [run_equalIn_int w d t k k0 n m ht]; rfl
    · cases h
theorem sameK_bool {t : TypeId} (ht : P.underlying t = some .bool) {x y : AV} {u v : Value} {b : Bool} (hx : VR φ w x u) (hy : VR φ w y v) (h : sameK .bool x y = some b) (d : Nat) :
    (Op.equalIn (d + 1) t u v).run P w = .ok b w := by
  cases hx <;> cases hy <;> simp only [sameK] at h <;> try (cases h; done)
  case bool.bool a c => cases h; exact run_equalIn_bool w d t a c ht
theorem sameK_str {t : TypeId} (ht : P.underlying t = some .string) {x y : AV} {u v : Value} {b : Bool} (hx : VR φ w x u) (hy : VR φ w y v) (h : sameK .str x y = some b) (d : Nat) :
    (Op.equalIn (d + 1) t u v).run P w = .ok b w := by
  cases hx <;> cases hy <;> simp only [sameK] at h <;> try (cases h; done)
  case str.str a c =>
    cases h
    rw [run_equalIn_string w d t a c ht]
    congr 1
    rw [Bool.eq_iff_iff, beq_iff_eq, beq_iff_eq, toList_data, toList_data]
    exact tx_inj.symm
theorem sameCells_append : ∀ (ks ks' : List EqC) (a b a' b' : List AV), a.length = ks.length → b.length = ks.length →
    sameCells (ks ++ ks') (a ++ a') (b ++ b') = (match sameCells ks a b with | some true => sameCells ks' a' b' | r => r)
  | [], _, [], [], _, _, _, _ => by simp [sameCells]
  | k :: ks, ks', x :: a, y :: b, a', b', h1, h2 => by
    simp only [List.cons_append, sameCells]
    split
    · exact sameCells_append ks ks' a b a' b' (by simpa using h1) (by simpa using h2)
    · rename_i r hr
      split
      · rename_i hh; exact absurd hh hr
      · rfl
  | [], _, _ :: _, _, _, _, h1, _ => by simp at h1
  | [], _, [], _ :: _, _, _, _, h2 => by simp at h2
  | _ :: _, _, [], _, _, _, h1, _ => by simp at h1
  | _ :: _, _, _ :: _, [], _, _, _, h2 => by simp at h2
/-- a part's '==', out of its cells -/
def PartEq (P : Program) (d : Nat) (t : TypeId) (ks : List EqC) : Prop :=
  ∀ (φ : Env) (w : World) (l1 l2 : List AV) (xs ys : Array Value) (off : Nat) (b : Bool), VRs φ w l1 xs.toList → VRs φ w l2 ys.toList → off + ks.length ≤ l1.length → off + ks.length ≤ l2.length →
    sameCells ks ((l1.drop off).take ks.length) ((l2.drop off).take ks.length) = some b → ∀ D, d ≤ D →
    ∃ a c, (Go.part t xs off).run P w = .ok a w ∧ (Go.part t ys off).run P w = .ok c w ∧ (Op.equalIn D t a c).run P w = .ok b w
theorem fields_eq {d : Nat} {rec : TypeId → Option (List EqC)} (hrec : ∀ t ks, rec t = some ks → has P t = true → P.cellsOf t = ks.length → PartEq P d t ks) :
    ∀ (fs : List Field) (n : Nat) (ks : List EqC), eqFs P rec fs n = some ks → ∀ (φ : Env) (w : World) (l1 l2 : List AV) (xs ys : Array Value) (b : Bool), VRs φ w l1 xs.toList → VRs φ w l2 ys.toList →
      n + ks.length ≤ l1.length → n + ks.length ≤ l2.length → sameCells ks ((l1.drop n).take ks.length) ((l2.drop n).take ks.length) = some b → ∀ D, d ≤ D → (Op.eqFields D xs ys fs).run P w = .ok b w
  | [], n, ks, h, φ, w, l1, l2, xs, ys, b, _, _, _, _, hs, D, _ => by
    simp only [eqFs, Option.some.injEq] at h
    subst h
    simp [sameCells] at hs
    subst hs
    simp [Op.eqFields]
  | f :: fs, n, ks, h, φ, w, l1, l2, xs, ys, b, hx, hy, g1, g2, hs, D, hD => by
    simp only [eqFs] at h
    split at h
    · cases h
    · rename_i hc
      simp only [not_or, Decidable.not_not, Bool.not_eq_false] at hc
      obtain ⟨c1, c2, c3⟩ := hc
      split at h
      · rename_i k1 hk1
        split at h
        · rename_i hsz
          rw [Option.map_eq_some_iff] at h
          obtain ⟨k2, hk2, rfl⟩ := h
          rw [List.length_append] at g1 g2 hs
          have e1 : ∀ l : List AV, n + (k1.length + k2.length) ≤ l.length → (l.drop n).take (k1.length + k2.length) = (l.drop n).take k1.length ++ ((l.drop (n + k1.length)).take k2.length) := by
            intro l _
            rw [List.take_add, List.drop_drop]
          rw [e1 l1 g1, e1 l2 g2, sameCells_append _ _ _ _ _ _ (by simp; omega) (by simp; omega)] at hs
          have hP := hrec _ _ hk1 c3 hsz
          simp only [Op.eqFields, c1, ne_eq, not_false_eq_true, if_true]
          have go : ∀ b1, sameCells k1 ((l1.drop n).take k1.length) ((l2.drop n).take k1.length) = some b1 → ∃ a c, (Go.part f.type xs f.offset).run P w = .ok a w ∧ (Go.part f.type ys f.offset).run P w = .ok c w ∧ (Op.equalIn D f.type a c).run P w = .ok b1 w := by
            intro b1 hb1
            rw [c2]
            exact hP φ w l1 l2 xs ys n b1 hx hy (by omega) (by omega) hb1 D hD
          split at hs
          · rename_i htrue
            obtain ⟨a, c, p1, p2, p3⟩ := go true htrue
            have ih := fields_eq hrec fs (n + k1.length) k2 hk2 φ w l1 l2 xs ys b hx hy (by omega) (by omega) hs D hD
            simp [p1, p2, p3, ih]
          · rename_i hne
            obtain ⟨a, c, p1, p2, p3⟩ := go b hs
            cases b with
            | true => exact absurd hs hne
            | false => simp [p1, p2, p3]
        · cases h
      · cases h
theorem fieldsOf_eq {t : TypeId} {fs : Array Field} (h : P.underlying t = some (.struct fs)) : P.fieldsOf t = fs := by
  unfold Program.fieldsOf; rw [h]
theorem flat_eq : ∀ (d : Nat) (t : TypeId) (ks : List EqC), eqFlat P d t = some ks → has P t = true → P.cellsOf t = ks.length → PartEq P d t ks
  | 0, _, _, h, _, _ => by cases h
  | d + 1, t, ks, h, ht, hsz => by
    intro φ w l1 l2 xs ys off b hx hy g1 g2 hs D hD
    obtain ⟨D, rfl⟩ : ∃ m, D = m + 1 := ⟨D - 1, by omega⟩
    have one : ∀ (c : EqC), ks = [c] → isAggB P t = false → (∀ (x y : AV) (u v : Value), VR φ w x u → VR φ w y v → sameK c x y = some b → (Op.equalIn (D + 1) t u v).run P w = .ok b w) →
        ∃ a c, (Go.part t xs off).run P w = .ok a w ∧ (Go.part t ys off).run P w = .ok c w ∧ (Op.equalIn (D + 1) t a c).run P w = .ok b w := by
      intro c hk hagg hc
      subst hk
      have hp : ∀ (l : List AV), off + 1 ≤ l.length → ∃ x, (l.drop off).take 1 = [x] ∧ part (isAggB P t) l off (P.cellsOf t) = some x := by
        intro l hl
        have hne : (l.drop off).take 1 = [l[off]'(by omega)] := by
          rw [List.drop_eq_getElem_cons (by omega)]
          rfl
        refine ⟨_, hne, ?_⟩
        rw [hagg, hsz]
        unfold part cut
        simp [hne]
      obtain ⟨x, hx1, hx2⟩ := hp l1 g1
      obtain ⟨y, hy1, hy2⟩ := hp l2 g2
      obtain ⟨u, hu, hxu⟩ := part_ok ht hx hx2
      obtain ⟨v, hv, hyv⟩ := part_ok ht hy hy2
      refine ⟨u, v, hu, hv, hc x y u v hxu hyv ?_⟩
      rw [show [c].length = 1 from rfl, hx1, hy1] at hs
      simp only [sameCells] at hs
      split at hs
      · rename_i htrue; rw [← hs]; exact htrue
      · exact hs
    simp only [eqFlat] at h
    split at h
    · rename_i k0 hu
      cases h
      exact one .int rfl (by unfold isAggB; rw [hu]) fun x y u v h1 h2 h3 => sameK_int hu h1 h2 h3 D
    · rename_i hu
      cases h
      exact one .bool rfl (by unfold isAggB; rw [hu]) fun x y u v h1 h2 h3 => sameK_bool hu h1 h2 h3 D
    · rename_i hu
      cases h
      exact one .str rfl (by unfold isAggB; rw [hu]) fun x y u v h1 h2 h3 => sameK_str hu h1 h2 h3 D
    · rename_i fs hu
      split at h
      · cases h
      · rename_i hst
        have hagg : isAggB P t = true := by unfold isAggB; rw [hu]
        have hp : ∀ (l : List AV), off + ks.length ≤ l.length → part (isAggB P t) l off (P.cellsOf t) = some (.agg ((l.drop off).take ks.length)) := by
          intro l hl
          rw [hagg, hsz]
          unfold part cut
          have : ((l.drop off).take ks.length).length = ks.length := by simp; omega
          simp only [this, T.beq_dec, decide_true, cond_true, if_true]
        obtain ⟨u, hu1, hxu⟩ := part_ok ht hx (hp l1 g1)
        obtain ⟨v, hv1, hyv⟩ := part_ok ht hy (hp l2 g2)
        refine ⟨u, v, hu1, hv1, ?_⟩
        cases hxu with
        | agg q1 =>
          cases hyv with
          | agg q2 =>
            have hu' : P.underlying t = some (.struct (P.fieldsOf t)) := by rw [fieldsOf_eq hu]; exact hu
            rw [run_equalIn_struct w D t _ _ hu' (by simpa using hst), fieldsOf_eq hu]
            refine fields_eq (d := d) (fun t' ks' h1 h2 h3 => flat_eq d t' ks' h1 h2 h3) fs.toList 0 ks h φ w _ _ _ _ b q1 q2 (by simp; omega) (by simp; omega) ?_ D (by omega)
            rw [List.drop_zero, List.drop_zero, List.take_take, List.take_take, Nat.min_self]
            exact hs
    · cases h
theorem eqn_ptr {t : TypeId} {e : TypeId} (ht : P.underlying t = some (.pointer e)) {x y : AV} {u v : Value} {b : Bool} (hx : VR φ w x u) (hy : VR φ w y v) (h : eqv .ptr x y = some b) (d : Nat) :
    (Op.equalIn (d + 1) t u v).run P w = .ok b w := by
  cases hx <;> cases hy <;> simp only [eqv] at h <;> first | (cases h; done) | (cases h; simp [Op.equalIn, run_underlying ht])
theorem eqn_sl {t : TypeId} {e : TypeId} (ht : P.underlying t = some (.slice e)) {x y : AV} {u v : Value} {b : Bool} (hx : VR φ w x u) (hy : VR φ w y v) (h : eqv .sl x y = some b) (d : Nat) :
    (Op.equalIn (d + 1) t u v).run P w = .ok b w := by
  cases hx <;> cases hy <;> simp only [eqv] at h <;> first | (cases h; done) | (cases h; simp [Op.equalIn, run_underlying ht])
theorem eqn_map {t : TypeId} {e e' : TypeId} (ht : P.underlying t = some (.map e e')) {x y : AV} {u v : Value} {b : Bool} (hx : VR φ w x u) (hy : VR φ w y v) (h : eqv .map x y = some b) (d : Nat) :
    (Op.equalIn (d + 1) t u v).run P w = .ok b w := by
  cases hx <;> cases hy <;> simp only [eqv] at h <;> first | (cases h; done) | (cases h; simp [Op.equalIn, run_underlying ht])
theorem eqn_fn {t : TypeId} {e e' : Array TypeId} {e'' : Bool} (ht : P.underlying t = some (.func e e' e'')) {x y : AV} {u v : Value} {b : Bool} (hx : VR φ w x u) (hy : VR φ w y v) (h : eqv .fn x y = some b) (d : Nat) :
    (Op.equalIn (d + 1) t u v).run P w = .ok b w := by
  cases hx <;> cases hy <;> simp only [eqv] at h <;> first | (cases h; done) | (cases h; simp [Op.equalIn, run_underlying ht])
theorem eqv_ok {op : BinOp} {t : TypeId} {k : EqK} {x y : AV} {u v : Value} {b : Bool} (hop : op = .eql ∨ op = .neq) (xo yo : Operand) (hx : VR φ w x u) (hy : VR φ w y v) (h : eqv k x y = some b)
    (hk : (k = .bool ∧ P.underlying t = some .bool) ∨ (k = .ptr ∧ ∃ e, P.underlying t = some (.pointer e)) ∨ (k = .sl ∧ ∃ e, P.underlying t = some (.slice e)) ∨ (k = .map ∧ ∃ a b, P.underlying t = some (.map a b)) ∨
      (k = .fn ∧ ∃ a b c, P.underlying t = some (.func a b c)) ∨ (∃ ks fs, k = .flat ks ∧ P.underlying t = some (.struct fs) ∧ eqFlat P 5 t = some ks ∧ P.eqGuardType P.depth t = false)) :
    (do eqGuard op t xo yo u v; Go.binOp op t u v : Sem Value).run P w = .ok (.bool (b != decide (op = .neq))) w := by
  have fin : ∀ (g : (eqGuard op t xo yo u v).run P w = .ok () w) (e : (Op.equalIn 10000 t u v).run P w = .ok b w) (n1 : ∀ k a k' c, ¬ (u = .int k a ∧ v = .int k' c)) (n2 : ∀ a c, ¬ (u = .string a ∧ v = .string c)) (n3 : ∀ k a k' c, ¬ (u = .float k a ∧ v = .float k' c)) (n4 : ∀ k a a' k' c c', ¬ (u = .complex k a a' ∧ v = .complex k' c c')),
      (do eqGuard op t xo yo u v; Go.binOp op t u v : Sem Value).run P w = .ok (.bool (b != decide (op = .neq))) w := by
    intro g e n1 n2 n3 n4
    rw [Sem.run_bind, g, Result.andThen_ok]
    have e' : (Op.equal t u v).run P w = .ok b w := e
    rcases hop with rfl | rfl
    · have : Go.binOp .eql t u v = (do pure (.bool (← Op.equal t u v))) := by
        unfold Go.binOp
        split <;> first | rfl | (rename_i h1 h2 h3; cases h1; done) | skip
        all_goals first | (exact absurd ⟨rfl, rfl⟩ (n1 _ _ _ _)) | (exact absurd ⟨rfl, rfl⟩ (n2 _ _)) | (exact absurd ⟨rfl, rfl⟩ (n3 _ _ _ _)) | (exact absurd ⟨rfl, rfl⟩ (n4 _ _ _ _ _ _)) | (simp_all; done)
      rw [this]
      simp [e']
    · have : Go.binOp .neq t u v = (do pure (.bool (!(← Op.equal t u v)))) := by
        unfold Go.binOp
        split <;> first | rfl | (rename_i h1 h2 h3; cases h1; done) | skip
        all_goals first | (exact absurd ⟨rfl, rfl⟩ (n1 _ _ _ _)) | (exact absurd ⟨rfl, rfl⟩ (n2 _ _)) | (exact absurd ⟨rfl, rfl⟩ (n3 _ _ _ _)) | (exact absurd ⟨rfl, rfl⟩ (n4 _ _ _ _ _ _)) | (simp_all; done)
      rw [this]
      simp [e']
  have g0 : (∀ a c, ¬ (u = .agg a ∧ v = .agg c)) → (¬ (u = .nilIface ∧ v = .nilIface)) → (eqGuard op t xo yo u v).run P w = .ok () w := by
    intro h1 h2
    unfold eqGuard
    rcases hop with rfl | rfl
    · simp only [Bool.not_true, Bool.false_eq_true, if_false]
      split
      · exact absurd ⟨rfl, rfl⟩ h2
      · exact absurd ⟨rfl, rfl⟩ (h1 _ _)
      · rfl
    · simp only [Bool.not_true, Bool.false_eq_true, if_false]
      split
      · exact absurd ⟨rfl, rfl⟩ h2
      · exact absurd ⟨rfl, rfl⟩ (h1 _ _)
      · rfl
  rcases hk with ⟨rfl, ht⟩ | ⟨rfl, e, ht⟩ | ⟨rfl, e, ht⟩ | ⟨rfl, e, e', ht⟩ | ⟨rfl, e, e', e'', ht⟩ | ⟨ks, fs, rfl, ht, hf, hg⟩
  · have q := fun (a c : Bool) => run_equalIn_bool (P := P) w 9999 t a c ht
    cases hx <;> cases hy <;> simp only [eqv] at h <;> try (cases h; done)
    cases h
    exact fin (g0 (by simp) (by simp)) (q _ _) (by simp) (by simp) (by simp) (by simp)
  · have q := eqn_ptr ht hx hy h 9999
    cases hx <;> cases hy <;> simp only [eqv] at h <;> try (cases h; done)
    all_goals exact fin (g0 (by simp) (by simp)) q (by simp) (by simp) (by simp) (by simp)
  · have q := eqn_sl ht hx hy h 9999
    cases hx <;> cases hy <;> simp only [eqv] at h <;> try (cases h; done)
    all_goals exact fin (g0 (by simp) (by simp)) q (by simp) (by simp) (by simp) (by simp)
  · have q := eqn_map ht hx hy h 9999
    cases hx <;> cases hy <;> simp only [eqv] at h <;> try (cases h; done)
    all_goals exact fin (g0 (by simp) (by simp)) q (by simp) (by simp) (by simp) (by simp)
  · have q := eqn_fn ht hx hy h 9999
    cases hx <;> cases hy <;> simp only [eqv] at h <;> try (cases h; done)
    all_goals exact fin (g0 (by simp) (by simp)) q (by simp) (by simp) (by simp) (by simp)
  · cases hx <;> cases hy <;> simp only [eqv] at h <;> try (cases h; done)
    case agg.agg l1 vs1 h1 l2 vs2 h2 =>
      split at h
      · rename_i hl
        refine fin (run_eqGuard_agg w op t xo yo _ _ hg) ?_ (by simp) (by simp) (by simp) (by simp)
        have hu' : P.underlying t = some (.struct (P.fieldsOf t)) := by rw [fieldsOf_eq ht]; exact ht
        have hf' := hf
        simp only [eqFlat, ht] at hf'
        split at hf'
        · cases hf'
        · rename_i hst
          refine Eq.trans (run_equalIn_struct w 9999 t _ _ hu' (by simpa using hst)) ?_
          rw [fieldsOf_eq ht]
          refine fields_eq (d := 4) (fun t' ks' h1 h2 h3 => flat_eq 4 t' ks' h1 h2 h3) fs.toList 0 ks hf' φ w _ _ _ _ b h1 h2 (by omega) (by omega) ?_ 9999 (by omega)
          rw [List.drop_zero, List.drop_zero, List.take_of_length_le (by omega), List.take_of_length_le (by omega)]
          exact h
      · cases h
end
end Go.Proofs.Ytlemediphmnffaa.VM
namespace Go.Proofs.Ytlemediphmnffaa.VM
open Go.RowKit
theorem take_set1 {α : Type} (l : List α) (n : Nat) (v : α) (h : n < l.length) : (l.set n v).take (n + 1) = l.take n ++ [v] := by
  rw [List.set_eq_take_append_cons_drop, if_pos h, List.take_append]
  have : (l.take n).length = n := by simp; omega
  rw [this, List.take_take]
  simp
theorem drop_set1 {α : Type} (l : List α) (n m : Nat) (v : α) (h : n < m) : (l.set n v).drop m = l.drop m := by
  rw [List.drop_set, if_pos h]
section
variable {P : Program} {φ : Env} {w : World} {H : Heap}
/-- A piece set into a row. -/
theorem setPiece : ∀ (vs : List Value) (k off : Nat) (cs : Array Value), off + k + vs.length ≤ cs.size →
    ((vs.zipIdx k).foldl (fun (cs : Array Value) (x : Value × Nat) => cs.setIfInBounds (off + x.2) x.1) cs).toList = cs.toList.take (off + k) ++ vs ++ cs.toList.drop (off + k + vs.length)
  | [], k, off, cs, _ => by simp
  | v :: vs, k, off, cs, h => by
    simp only [List.length_cons] at h
    rw [List.zipIdx_cons, List.foldl_cons, setPiece vs (k + 1) off _ (by simp; omega)]
    have e : (cs.setIfInBounds (off + k) v).toList = cs.toList.set (off + k) v := by simp
    rw [e, show off + (k + 1) = off + k + 1 by omega]
    have hl : off + k < cs.toList.length := by simp; omega
    rw [take_set1 _ _ _ hl, drop_set1 _ _ _ _ (by omega)]
    simp [Nat.add_assoc, Nat.add_comm 1 vs.length]
theorem setPiece' (vs cs : Array Value) (off : Nat) (h : off + vs.size ≤ cs.size) :
    (vs.zipIdx.foldl (fun (cs : Array Value) (x : Value × Nat) => cs.setIfInBounds (off + x.2) x.1) cs).toList = cs.toList.take off ++ vs.toList ++ cs.toList.drop (off + vs.size) := by
  rw [← Array.foldl_toList, Array.toList_zipIdx, setPiece vs.toList 0 off cs (by simpa using h)]
  simp
/-- Parts stand for parts. -/
inductive PR (φ : Env) (w : World) (place : Nat → Option (Nat × Nat)) : List (Nat × Nat × AV) → List (Nat × Value) → Prop
  | nil : PR φ w place [] []
  | cons {i o n : Nat} {x : AV} {v : Value} {l : List (Nat × Nat × AV)} {l' : List (Nat × Value)} (hp : place i = some (o, n)) (hx : VR φ w x v) (t : PR φ w place l l') : PR φ w place ((o, n, x) :: l) ((i, v) :: l')
theorem fill_ok {place : Nat → Option (Nat × Nat)} : ∀ {ps : List (Nat × Nat × AV)} {ps' : List (Nat × Value)} {l l' : List AV} {cells : Array Value}, PR φ w place ps ps' → VRs φ w l cells.toList → fill l ps = some l' →
    ∃ cells', Instr.fill place cells ps' = some cells' ∧ VRs φ w l' cells'.toList
  | _, _, l, l', cells, .nil, h, e => by cases e; exact ⟨cells, rfl, h⟩
  | _, _, l, l', cells, .cons (o := o) (n := n) (x := x) (v := v) hp hx t, h, e => by
    simp only [fill] at e
    split at e
    · rename_i c hc
      have hcs := hx.cells hc
      by_cases cond : (Nat.beq c.length n && Nat.ble (o + n) l.length) = true
      · rw [cond, cond_true] at e
        rw [Bool.and_eq_true, Nat.beq_eq, Nat.ble_eq] at cond
        have hsz : v.cells.size = n := by rw [← cond.1, hcs.length]; simp
        have hlen := h.length
        have hle : o + v.cells.size ≤ cells.size := by rw [hsz]; have : l.length = cells.size := by simpa using hlen
                                                       omega
        have hnew : VRs φ w (lsets c l o) (v.cells.zipIdx.foldl (fun (cs : Array Value) (x : Value × Nat) => cs.setIfInBounds (o + x.2) x.1) cells).toList := by
          rw [setPiece' _ _ _ hle]
          unfold lsets
          have e1 : c.length = v.cells.size := by rw [hsz]; exact cond.1
          rw [e1]
          exact ((h.take o).append hcs).append (h.drop _)
        obtain ⟨cells', g1, g2⟩ := fill_ok t hnew e
        refine ⟨cells', ?_, g2⟩
        simp only [Instr.fill, hp]
        rw [if_neg (by simp [hsz]; omega)]
        exact g1
      · rw [Bool.not_eq_true] at cond
        rw [cond, cond_false] at e
        cases e
    · cases e
theorem fill_length : ∀ {ps : List (Nat × Nat × AV)} {l l' : List AV}, fill l ps = some l' → l'.length = l.length
  | [], l, l', e => by cases e; rfl
  | (o, n, x) :: ps, l, l', e => by
    simp only [fill] at e
    split at e
    · rename_i c hc
      by_cases cond : (Nat.beq c.length n && Nat.ble (o + n) l.length) = true
      · rw [cond, cond_true] at e
        rw [Bool.and_eq_true, Nat.beq_eq, Nat.ble_eq] at cond
        rw [fill_length e, lsets_length _ _ _ (by omega)]
      · rw [Bool.not_eq_true] at cond
        rw [cond, cond_false] at e
        cases e
    · cases e
theorem parts_ok {nt : Nat} {st : St} {a : Act} (hs : SR φ w nt st a) {place : Nat → Option (Nat × Nat)} : ∀ {ps : List (Nat × Operand)} {q : List (Nat × Nat × Opd)}, cParts place ps = some q →
    PR φ w place (q.map fun (o, n, x) => (o, n, x.eval st)) (ps.map fun (i, x) => (i, a.eval x))
  | [], q, h => by simp [cParts] at h; subst h; exact .nil
  | (i, x) :: ps, q, h => by
    simp only [cParts, List.mapM_cons, Option.bind_eq_bind, Option.bind_eq_some_iff, Option.pure_def, Option.some.injEq] at h
    obtain ⟨y, hy, l', hl, rfl⟩ := h
    split at hy
    · rename_i o n z hp hz
      cases hy
      exact .cons hp (opd_ok hs hz) (parts_ok hs hl)
    · cases hy
theorem run_places : ∀ (fs : List Field), fs.all (fun f => has P f.type) = true →
    (fs.mapM (fun f => (do pure (f.offset, ← sizeOf f.type) : Sem (Nat × Nat)))).run P w = .ok (fs.map fun f => (f.offset, P.cellsOf f.type)) w
  | [], _ => by simp
  | f :: fs, h => by
    simp only [List.all_cons, Bool.and_eq_true] at h
    rw [List.mapM_cons]
    have ih := run_places fs h.2
    simp only [Sem.run_bind, run_size h.1, Result.andThen_ok, Sem.run_pure, ih, List.map_cons]
theorem op_build_struct (hr : HR φ w H) {t : TypeId} {fs : Array Field} (ht : P.underlying t = some (.struct fs)) {z : List AV} (hz : zeroC P t = some z) (hall : fs.toList.all (fun f => has P f.type) = true)
    {ps : List (Nat × Nat × AV)} {ps' : Array (Nat × Value)} (hp : PR φ w (fun i => (fs[i]?).map fun f => (f.offset, P.cellsOf f.type)) ps ps'.toList) {l : List AV} (h : fill z ps = some l) :
    Leaves φ w H ((do pure (Next.value (← Instr.build t ps')) : Sem Next).run P w) (.agg l) H := by
  obtain ⟨i, v, h1, h2, _, _, h5⟩ := zero_spec (φ := φ) (w := w) hz
  obtain ⟨cells', g1, g2⟩ := fill_ok hp h5 h
  refine leaves_val hr (u := .agg cells') ?_ (.agg g2)
  have hm : (fs.mapM (fun f => (do pure (f.offset, ← sizeOf f.type) : Sem (Nat × Nat)))).run P w = .ok (fs.map fun f => (f.offset, P.cellsOf f.type)) w := by
    rw [Array.mapM_eq_mapM_toList, Sem.run_map, run_places _ hall]
    simp only [Result.andThen_ok]
    congr 1
    apply Array.ext'
    simp
  have hpl : (fun i : Nat => (fs.map fun f : Field => (f.offset, P.cellsOf f.type))[i]?) = (fun i : Nat => (fs[i]?).map fun f : Field => (f.offset, P.cellsOf f.type)) := by
    funext i; simp
  simp only [Instr.build, Sem.run_bind, run_zero h1 h2, Result.andThen_ok, run_underlying ht, hm, hpl, g1, Sem.run_pure]
theorem op_build_arr (hr : HR φ w H) {t e : TypeId} {n : Nat} (ht : P.underlying t = some (.array n e)) (he : has P e = true) {z : List AV} (hz : zeroC P t = some z)
    {ps : List (Nat × Nat × AV)} {ps' : Array (Nat × Value)} (hp : PR φ w (fun i => some (i * P.cellsOf e, P.cellsOf e)) ps ps'.toList) {l : List AV} (h : fill z ps = some l) :
    Leaves φ w H ((do pure (Next.value (← Instr.build t ps')) : Sem Next).run P w) (.agg l) H := by
  obtain ⟨i, v, h1, h2, _, _, h5⟩ := zero_spec (φ := φ) (w := w) hz
  obtain ⟨cells', g1, g2⟩ := fill_ok hp h5 h
  refine leaves_val hr (u := .agg cells') ?_ (.agg g2)
  simp only [Instr.build, Sem.run_bind, run_zero h1 h2, Result.andThen_ok, run_underlying ht, run_size he, g1, Sem.run_pure]
/-- n times a zero -/
theorem zeros_list : ∀ (n : Nat) (z : List Value), 0 < z.length → (List.range (n * z.length)).map (fun i => z.getD (i % z.length) undef) = (List.replicate n z).flatten
  | 0, z, _ => by simp
  | n + 1, z, h => by
    rw [List.replicate_succ', List.flatten_append, ← zeros_list n z h, Nat.succ_mul, List.range_add, List.map_append]
    congr 1
    simp only [List.map_map, List.flatten_cons, List.flatten_nil, List.append_nil]
    apply List.ext_getElem
    · simp
    · intro i h1 h2
      simp at h1
      simp [Nat.mul_comm n z.length, Nat.mod_eq_of_lt h1, h1]
theorem VRs.flat {l : List AV} {vs : List Value} (h : VRs φ w l vs) : ∀ n, VRs φ w (List.replicate n l).flatten (List.replicate n vs).flatten
  | 0 => .nil
  | n + 1 => by
    rw [List.replicate_succ, List.replicate_succ, List.flatten_cons, List.flatten_cons]
    exact h.append (h.flat n)
theorem getBang (z : Array Value) (i : Nat) (h : 0 < z.size) : z[i % z.size]! = z.toList.getD (i % z.toList.length) undef := by
  have hl : i % z.size < z.size := Nat.mod_lt _ h
  rw [getElem!_pos z (i % z.size) hl]
  have : i % z.toList.length < z.toList.length := by simpa using hl
  rw [List.getD_eq_getElem?_getD, List.getElem?_eq_getElem this]
  simp
theorem op_bslice (hr : HR φ w H) {nm : Nat} (hn : H.get nm = none) {t e : TypeId} {len : Nat} (ht : P.underlying t = some (.slice e)) {z : List AV} (hz : zeroC P e = some z) (hpos : 0 < z.length) (hle : len * P.cellsOf e ≤ 16777216)
    {ps : List (Nat × Nat × AV)} {ps' : Array (Nat × Value)} (hp : PR φ w (fun i => some (i * P.cellsOf e, P.cellsOf e)) ps ps'.toList) {l : List AV} (h : fill (List.replicate len z).flatten ps = some l) :
    Leaves φ w H ((do pure (Next.value (← Instr.buildSlice t len ps')) : Sem Next).run P w) (.sl nm 0 len len z.length) (H.mk' nm (.cells l e 0)) := by
  obtain ⟨i, v, h1, h2, h3, h4, h5⟩ := zero_spec (φ := φ) (w := w) hz
  have hsz : P.cellsOf e = i.size := by unfold Program.cellsOf; rw [h1]; rfl
  have hrun : (sizeOf e).run P w = .ok (P.cellsOf e) w := by simp [sizeOf, typeInfo, h1, Program.cellsOf]
  have hzs : 0 < v.cells.size := by omega
  have hzc : ((Array.range (len * P.cellsOf e)).map fun j => v.cells[j % v.cells.size]!) = (List.replicate len v.cells.toList).flatten.toArray := by
    rw [hsz, ← h3]
    apply Array.ext'
    have := zeros_list len v.cells.toList (by simpa using hzs)
    rw [Array.toList_map, Array.toList_range, List.toList_toArray, ← this]
    rw [show v.cells.toList.length = v.cells.size by simp]
    apply List.map_congr_left
    intro j _
    rw [getBang v.cells j hzs]
    simp
  have hlen63 : len ≤ 9223372036854775807 := by
    have : 0 < P.cellsOf e := by omega
    have := Nat.le_mul_of_pos_right len this
    omega
  obtain ⟨cells', g1, g2⟩ := fill_ok (cells := (List.replicate len v.cells.toList).flatten.toArray) hp (by simpa using h5.flat len) h
  have hlen := g2.length
  have hl : l.length = len * z.length := by
    have := fill_length h
    rw [this]; simp
  refine leaves_new (u := .slice (some ⟨w.heap.size, 0, none⟩) len len) hr hn g2 e e 0 ?_ ?_
  · have hle' : ¬ (len * P.cellsOf e > 2 ^ 24) := by omega
    simp only [Instr.buildSlice, Sem.run_bind, run_underlying ht, Result.andThen_ok, hrun]
    rw [if_neg hle']
    by_cases h0 : len * P.cellsOf e = 0
    · have hlen0 : len = 0 := by
        rcases Nat.mul_eq_zero.1 h0 with h | h
        · exact h
        · omega
      subst hlen0
      rw [if_pos h0]
      simp only [List.replicate_zero, List.flatten_nil] at g1
      have hr0 : Array.range (0 * P.cellsOf e) = #[] := by simp
      simp only [Sem.run_bind, Sem.run_pure, Result.andThen_ok, hr0, Array.map_empty, g1, newRow, run_newObj_alloc]
    · rw [if_neg h0]
      simp only [Sem.run_bind, run_zero h1 h2, Result.andThen_ok, Sem.run_pure, hzc, g1, newRow, run_newObj_alloc]
  · refine .sl (o := 0) (at_self _ _) (Nat.le_refl _) (Nat.le_refl _) (shape_new _ _) ⟨?_, hlen63⟩
    have : cells'.size = l.length := by rw [hlen]; simp
    omega
end
end Go.Proofs.Ytlemediphmnffaa.VM
namespace Go.Proofs.Ytlemediphmnffaa.VM
open Go.RowKit
section
variable {P : Program} {φ : Env} {w : World} {H : Heap}
theorem zero_row {e : TypeId} {z : List AV} (hz : zeroC P e = some z) (hpos : 0 < z.length) (n : Nat) :
    ∃ i v, P.info? e = some i ∧ i.zero = some v ∧ P.cellsOf e = z.length ∧ v.cells.size = z.length ∧ (sizeOf e).run P w = .ok (P.cellsOf e) w ∧
      ((Array.range (n * P.cellsOf e)).map fun j => v.cells[j % v.cells.size]!) = (List.replicate n v.cells.toList).flatten.toArray ∧ VRs φ w (List.replicate n z).flatten (List.replicate n v.cells.toList).flatten := by
  obtain ⟨i, v, h1, h2, h3, h4, h5⟩ := zero_spec (φ := φ) (w := w) hz
  have hsz : P.cellsOf e = i.size := by unfold Program.cellsOf; rw [h1]; rfl
  have hzs : 0 < v.cells.size := by omega
  refine ⟨i, v, h1, h2, by omega, by omega, by simp [sizeOf, typeInfo, h1, Program.cellsOf], ?_, h5.flat n⟩
  rw [hsz, ← h3]
  apply Array.ext'
  have := zeros_list n v.cells.toList (by simpa using hzs)
  rw [Array.toList_map, Array.toList_range, List.toList_toArray, ← this]
  rw [show v.cells.toList.length = v.cells.size by simp]
  apply List.map_congr_left
  intro j _
  rw [getBang v.cells j hzs]
  simp
theorem op_mkslice (hr : HR φ w H) {nm : Nat} (hn : H.get nm = none) {t e : TypeId} (ht : P.underlying t = some (.slice e)) {z : List AV} (hz : zeroC P e = some z) (hpos : 0 < z.length)
    {l c : Int} {lv cv : Value} (hlv : VR φ w (.int .i64 l) lv) (hcv : VR φ w (.int .i64 c) cv) (hc : 0 ≤ l ∧ l ≤ c ∧ c.toNat * P.bytesOf e ≤ most ∧ c.toNat ≤ most) :
    Leaves φ w H ((do pure (Next.value (← Instr.makeSlice t lv cv)) : Sem Next).run P w) (.sl nm 0 l.toNat c.toNat z.length) (H.mk' nm (.cells (List.replicate c.toNat z).flatten e 0)) := by
  cases hlv
  cases hcv
  obtain ⟨i, v, h1, h2, h3, h4, h5, h6, h7⟩ := zero_row (φ := φ) (w := w) hz hpos c.toNat
  obtain ⟨c1, c2, c3, c4⟩ := hc
  have hb : P.bytesOf e = i.bytes := by unfold Program.bytesOf; rw [h1]; rfl
  obtain ⟨cn, rfl⟩ := Int.eq_ofNat_of_zero_le (show 0 ≤ c by omega)
  obtain ⟨ln, rfl⟩ := Int.eq_ofNat_of_zero_le c1
  rw [Int.toNat_natCast] at c3 c4 h6 h7 ⊢
  rw [Int.toNat_natCast]
  have wl : IntKind.i64.wrap (ln : Int) = ln := by rw [IntKind.wrap_i64]; unfold most at c4; omega
  have wc : IntKind.i64.wrap (cn : Int) = cn := by rw [IntKind.wrap_i64]; unfold most at c4; omega
  refine leaves_new (u := .slice (some ⟨w.heap.size, 0, none⟩) ln cn) hr hn (cs := (List.replicate cn v.cells.toList).flatten.toArray) (by simpa using h7) e e 0 ?_ ?_
  · have hti : (typeInfo e).run P w = .ok i w := by simp [typeInfo, h1]
    have big : ∀ m : Nat, m ≤ cn → ¬ ((i.bytes : Int) * (m : Int) > 2 ^ 48) := by
      intro m hm
      have : i.bytes * m ≤ i.bytes * cn := Nat.mul_le_mul_left _ hm
      have h' : i.bytes * cn ≤ most := by rw [← hb, Nat.mul_comm]; exact c3
      unfold most at h'
      have : i.bytes * m ≤ 140737488355328 := by omega
      have e1 : ((i.bytes : Int) * (m : Int)) = ((i.bytes * m : Nat) : Int) := by push_cast; rfl
      rw [e1]; omega
    have b1 := big cn (Nat.le_refl _)
    have b2 : ¬ ((cn * i.bytes) > roomBytes) := by
      unfold roomBytes
      have h' : i.bytes * cn ≤ most := by rw [← hb, Nat.mul_comm]; exact c3
      unfold most at h'
      rw [Nat.mul_comm]; omega
    have neg : ¬ ((cn : Int) < 0) := by omega
    have neg2 : ¬ ((ln : Int) < 0) := by omega
    have gt : ¬ ((ln : Int) > (cn : Int)) := by omega
    have cond : ((decide ((cn : Int) < 0) || decide ((i.bytes : Int) * (cn : Int) > 2 ^ 48)) || decide ((ln : Int) < 0) || decide ((ln : Int) > (cn : Int))) = false := by
      simp only [neg, neg2, gt, b1, decide_false, Bool.or_false]
    simp only [Instr.makeSlice, Sem.run_bind, run_underlying ht, Result.andThen_ok, asInt, asIntOf, Sem.run_pure, hti, wl, wc]
    rw [if_neg (by rw [cond]; simp)]
    simp only [askRoom, Int.toNat_natCast, b2, if_false, Sem.run_bind, Sem.run_pure, Result.andThen_ok, h5]
    by_cases h0 : cn * P.cellsOf e = 0
    · have hc0 : cn = 0 := by
        rcases Nat.mul_eq_zero.1 h0 with h | h
        · exact h
        · omega
      subst hc0
      rw [if_pos h0]
      have hr0 : Array.range (0 * P.cellsOf e) = #[] := by simp
      simp only [Sem.run_bind, Sem.run_pure, Result.andThen_ok, hr0, Array.map_empty, newRow, run_newObj_alloc]
      simp
    · rw [if_neg h0]
      simp only [Sem.run_bind, run_zero h1 h2, Result.andThen_ok, Sem.run_pure, h6, newRow, run_newObj_alloc]
  · refine .sl (o := 0) (at_self _ _) (Nat.le_refl _) (by omega) (shape_new _ _) ⟨?_, by unfold VM.most at *; omega⟩
    simp [h4]
/-- The cells of a slice or text, read. -/
theorem cellsOf_ok (hr : HR φ w H) {size n : Nat} {x : AV} {u : Value} (hx : VR φ w x u) {l : List AV} (h : cellsOf H size n x = some l) :
    ∃ us : List Value, VRs φ w l us ∧ (Builtin.firstCells size n u).run P w = .ok us.toArray w := by
  cases hx <;> simp only [cellsOf] at h <;> try (cases h; done)
  case str s =>
    cases h
    refine ⟨(s.data.toList.take n).map fun b => Value.int .u8 (b.toNat : Int), ?_, ?_⟩
    · rw [← List.map_take, List.map_map]
      generalize s.data.toList.take n = q
      induction q with
      | nil => exact .nil
      | cons c q ih => exact .cons (.int _ _) ih
    · simp only [Builtin.firstCells, Sem.run_pure]
      congr 1
      apply Array.ext'
      simp [ByteArray.data_extract, List.extract, List.map_take]
  case sl b off len cap sz B o c n' ty hb hc hl hs hr' =>
    split at h
    · split at h
      · rename_i cs e ver hg
        obtain ⟨e1, e2⟩ := cut_spec h
        obtain ⟨B', o', e', m, q1, q2, q3, q4, q5⟩ := hr.cells hg
        rw [hb] at q1
        cases q1
        have hm := (q3.drop off).take (n * size)
        rw [← e1] at hm
        obtain ⟨us, g1, g2⟩ := hm.vals
        refine ⟨us, g1, ?_⟩
        have hl := g1.length
        simp only [Builtin.firstCells]
        have := run_loadCells_list (P := P) w ⟨B, o + off, none⟩ us fun j u hj => by rw [add_none]; exact g2 j u hj
        rw [← hl, e2] at this
        exact this
      · cases h
    · cases h
  case sl0 b off sz a =>
    split at h
    · rename_i hn
      have hn0 : n = 0 := by omega
      subst hn0
      split at h
      · obtain ⟨e1, e2⟩ := cut_spec h
        rw [Nat.zero_mul] at e2
        have := List.eq_nil_of_length_eq_zero e2
        subst this
        exact ⟨[], .nil, by simp [Builtin.firstCells, loadCells, loadCellsFrom]⟩
      · cases h
    · cases h
  case nils =>
    split at h
    · rename_i h0
      cases h
      exact ⟨[], .nil, by simp [Builtin.firstCells]⟩
    · cases h
  case rs0 a c =>
    obtain ⟨e1, e2⟩ := cut_spec h
    simp only [List.drop_nil, List.take_nil] at e1
    subst e1
    refine ⟨[], .nil, ?_⟩
    have e3 : n * size = 0 := by simpa using e2.symm
    simp [Builtin.firstCells, loadCells, loadCellsFrom, e3]
  case rs cs len B off c hl hB hlt hm =>
    obtain ⟨e1, e2⟩ := cut_spec h
    have hm' := hm.take (n * size)
    rw [List.drop_zero] at e1
    rw [← e1] at hm'
    obtain ⟨us, g1, g2⟩ := hm'.vals
    refine ⟨us, g1, ?_⟩
    have hl := g1.length
    simp only [Builtin.firstCells]
    have := run_loadCells_list (P := P) w ⟨B, off, none⟩ us fun j u hj => by rw [add_none]; exact g2 j u hj
    rw [← hl, e2] at this
    exact this
theorem lenV_ok {x : AV} {u : Value} (hx : VR φ w x u) {n : Nat} (h : lenV x = some n) : (Builtin.lenOf u).run P w = .ok n w := by
  cases hx <;> simp only [lenV] at h <;> first | (cases h; done) | (cases h; simp [Builtin.lenOf])
theorem kill_ok (hr : HR φ w H) {b : Nat} (hex : ∃ x, H.get b = some x) : HR φ w (H.put b .dead) := by
  refine ⟨fun c => ?_, hr.lt, fun c c' p p' hl hl' hp hp' he => ?_, fun c hc => ?_⟩
  · rw [Heap.get_put]
    by_cases e : c = b
    · rw [if_pos e]; trivial
    · rw [if_neg e]; exact hr.blk c
  · rw [Heap.get_put] at hl hl'
    have L : ∀ {d : Nat}, live (if d = b then some Blk.dead else H.get d) = true → live (H.get d) = true := by
      intro d hd
      by_cases ed : d = b
      · rw [if_pos ed] at hd; cases hd
      · rw [if_neg ed] at hd; exact hd
    exact hr.inj c c' p p' (L hl) (L hl') hp hp' he
  · have hc' : H.next ≤ c := hc
    rw [Heap.get_put]
    have := hr.next c hc'
    obtain ⟨x, hx⟩ := hex
    rw [if_neg (fun ec => by rw [ec, hx] at this; cases this)]
    exact this
theorem upd_drew : Upd φ w φ w.drew := ⟨rfl, rfl, rfl, Nat.le_refl _, fun _ _ h => h, fun _ _ _ h => .inl ⟨_, _, h⟩, fun _ _ _ => rfl, fun _ _ h => h, dr_le (Nat.le_succ _)⟩
theorem updH_drew (H : Heap) : UpdH φ w H φ w.drew H := UpdH.same _ H upd_drew fun _ _ => rfl
theorem updH_kill {b : Nat} (hex : ∃ x, H.get b = some x) : UpdH φ w H φ w (H.put b .dead) := by
  refine { toUpd := Upd.refl _ _, keepL := fun _ _ _ => rfl, deadL := fun c h1 h2 => ?_, newL := fun c B o h1 h2 => ?_, stay := fun c h1 => ?_ }
  · rw [Heap.get_put]
    by_cases e : c = b
    · rw [if_pos e]; exact ⟨by simp, rfl, rfl⟩
    · rw [if_neg e]; exact ⟨h1, h2, rfl⟩
  · rw [Heap.get_put] at h1
    by_cases e : c = b
    · rw [if_pos e] at h1; cases h1
    · rw [if_neg e] at h1; exact .inl ⟨_, _, h1, h2⟩
  · rw [Heap.get_put]
    by_cases e : c = b
    · rw [if_pos e]; simp
    · rw [if_neg e]; exact h1
theorem hr_drew (hr : HR φ w H) : HR φ w.drew H := by
  refine ⟨fun b => ?_, hr.lt, hr.inj, hr.next⟩
  by_cases hl : live (H.get b) = true
  · exact BR.upd hr upd_drew hl fun _ _ => rfl
  · rcases not_live hl with h | h
    · rw [h]; have := hr.blk b; rw [h] at this; exact this
    · rw [h]; trivial
/-- A new block whose first cells are told. -/
theorem br_new' {l : List AV} {us rest : List Value} (h : VRs φ w l us) {nm : Nat} (hn : φ nm = none) (e e' : TypeId) (ver : Nat) :
    BR (φ.at nm (w.heap.size, 0)) (w.alloc (.cells (us ++ rest).toArray e')) nm (some (.cells l e ver)) := by
  have u := upd_alloc (φ := φ) (w := w) (.cells (us ++ rest).toArray e') hn
  refine ⟨w.heap.size, 0, e', (us ++ rest).toArray.size, by unfold Env.at; rw [if_pos rfl], shape_new _ _, VRm.of_get fun i x hx => ?_, ⟨fun i _ => by simp, fun fr hf => by simp only [frz?, heap_alloc_new, Option.some.injEq] at hf; rw [← hf]; exact Nat.le_refl _⟩, by rw [h.length]; simp⟩
  obtain ⟨v, hv, hrv⟩ := (h.upd u).get hx
  refine ⟨v, ?_, hrv⟩
  rw [Nat.zero_add, World.cell?_alloc_new]
  have hlt : i < us.length := by
    rcases Nat.lt_or_ge i us.length with h' | h'
    · exact h'
    · rw [List.getElem?_eq_none h'] at hv; cases hv
  simp only [List.getElem?_toArray]
  rw [List.getElem?_append_left hlt]
  exact hv
theorem zeroCells_size (z : Array Value) (n : Nat) : (Builtin.zeroCells z n).size = n * z.size := by simp [Builtin.zeroCells]
/-- The slow way: a new row. -/
theorem grow_run {t t2 e : TypeId} (ht : P.underlying t = some (.slice e)) (ht2 : (∃ e', P.underlying t2 = some (.slice e')) ∨ P.underlying t2 = some .string) (hb0 : 0 < P.bytesOf e ∧ P.bytesOf e ≤ 1000000) {z : List AV} (hz : zeroC P e = some z) (ty : TypeId)
    {base : Option Addr} {sLen sCap n : Nat} {xu : Value} {old new : List Value} (hlen : (Builtin.lenOf xu).run P w = .ok n w) (hg2 : (Builtin.firstCells (P.cellsOf e) n xu).run P w.drew = .ok new.toArray w.drew)
    (hg1 : (Builtin.firstCells (P.cellsOf e) sLen (.slice base sLen sCap)).run P w.drew = .ok old.toArray w.drew) (hgt : sCap < sLen + n) (hmost : (sLen + n) * P.bytesOf e ≤ most2) :
    ∃ (rest : List Value) (newCap : Nat), (Builtin.append_ #[t, t2] ty #[.slice base sLen sCap, xu]).run P w = .ok (.slice (some ⟨w.heap.size, 0, none⟩) (sLen + n) newCap) (w.drew.alloc (.cells (old ++ new ++ rest).toArray e)) ∧
      sLen + n ≤ newCap ∧ newCap ≤ 9223372036854775807 ∧ rest.length = (newCap - (sLen + n)) * P.cellsOf e := by
  obtain ⟨i, v, h1, h2, h3, h4, _⟩ := zero_spec (φ := fun _ => none) (w := w) hz
  have hsz : P.cellsOf e = i.size := by unfold Program.cellsOf; rw [h1]; rfl
  have hbi : P.bytesOf e = i.bytes := by unfold Program.bytesOf; rw [h1]; rfl
  have hti : ∀ w', (typeInfo e).run P w' = .ok i w' := fun w' => by simp [typeInfo, h1]
  have h63' : ¬ (9223372036854775807 < ((sLen : Int) + (n : Int))) := by
    unfold most2 at hmost
    have : sLen + n ≤ (sLen + n) * P.bytesOf e := Nat.le_mul_of_pos_right _ hb0.1
    omega
  have h48' : ¬ (281474976710656 < Builtin.nextslicecap (sLen + n) sCap * i.bytes) := by
    have hb1 := hb0.2
    rw [hbi] at hmost hb1
    refine Nat.not_lt.2 (growslice_fits_wide hgt ?_)
    have q1 : 4 * ((sLen + n) / 4) * i.bytes ≤ (sLen + n) * i.bytes := Nat.mul_le_mul_right _ (by omega)
    rw [Nat.mul_assoc] at q1
    rw [Nat.add_mul, Nat.add_mul]
    unfold most2 at hmost
    omega
  rw [hsz] at hg1 hg2
  have hn : ¬ (sLen + n ≤ sCap) := by omega
  refine ⟨(Builtin.zeroCells v.cells (grownCap w (sLen + n) sCap e - (sLen + n))).toList, grownCap w (sLen + n) sCap e, ?_, grownCap_ge _ _ _ _, ?_, ?_⟩
  · rcases ht2 with ⟨e', hu2⟩ | hu2
    · simp [Builtin.append_, run_underlying ht, run_underlying hu2, sizeOf, typeInfo, zeroValue, h1, h2, hlen, hn, h63', h48', Question.forced, hg1, hg2, newRow, grownCap]
      congr 2
      apply Array.ext'
      simp
    · simp [Builtin.append_, run_underlying ht, run_underlying hu2, sizeOf, typeInfo, zeroValue, h1, h2, hlen, hn, h63', h48', Question.forced, hg1, hg2, newRow, grownCap]
      congr 2
      apply Array.ext'
      simp
  · have := grownCap_le_maxLen w (sLen + n) sCap e (by unfold maxLen; omega)
    unfold maxLen at this
    omega
  · rw [Array.length_toList, zeroCells_size, h3, ← hsz]
/-- The quick way: there is room. -/
theorem room_run {t t2 e : TypeId} (ht : P.underlying t = some (.slice e)) (ht2 : (∃ e', P.underlying t2 = some (.slice e')) ∨ P.underlying t2 = some .string) (he : has P e = true) (ty : TypeId)
    {base : Option Addr} {sLen sCap n : Nat} {xu : Value} {new : List Value} (hlen : (Builtin.lenOf xu).run P w = .ok n w) (hg2 : (Builtin.firstCells (P.cellsOf e) n xu).run P w = .ok new.toArray w) (hle : sLen + n ≤ sCap) {w' : World}
    (hst : (match base with | some a => storeCells (a.add (sLen * P.cellsOf e)) new | none => pure ()).run P w = .ok () w') :
    (Builtin.append_ #[t, t2] ty #[.slice base sLen sCap, xu]).run P w = .ok (.slice base (sLen + n) sCap) w' := by
  obtain ⟨i, hi⟩ := has_info he
  have hsz : P.cellsOf e = i.size := by unfold Program.cellsOf; rw [hi]; rfl
  rw [hsz] at hg2 hst
  cases base with
  | none =>
    simp at hst
    subst hst
    rcases ht2 with ⟨e', hu2⟩ | hu2 <;> simp [Builtin.append_, run_underlying ht, run_underlying hu2, sizeOf, typeInfo, hi, hlen, hle, hg2]
  | some a =>
    simp only at hst
    rcases ht2 with ⟨e', hu2⟩ | hu2 <;> simp [Builtin.append_, run_underlying ht, run_underlying hu2, sizeOf, typeInfo, hi, hlen, hle, hg2, hst]
theorem leaves_grow {H1 : Heap} (hu1 : UpdH φ w H φ w.drew H1) (hr1 : HR φ w.drew H1) (hn : H1.get H1.next = none) {l : List AV} {us rest : List Value} (hl : VRs φ w.drew l us) (e : TypeId) {s : Sem Value} {need cap size : Nat} {sz : Nat} (hcap : need ≤ cap) (hcap63 : cap ≤ 9223372036854775807)
    (hsize : us.length + rest.length = cap * sz) (_ : size = sz)
    (hs : s.run P w = .ok (.slice (some ⟨w.heap.size, 0, none⟩) need cap) (w.drew.alloc (.cells (us ++ rest).toArray e))) :
    Leaves φ w H ((do pure (Next.value (← s)) : Sem Next).run P w) (.sl H1.next 0 need need sz) (H1.mk' H1.next (.cells l e 0)) := by
  have hφ : φ H1.next = none := by have := hr1.blk H1.next; rw [hn] at this; exact this
  have hsz : w.drew.heap.size = w.heap.size := rfl
  refine ⟨φ.at H1.next (w.drew.heap.size, 0), .value (.slice (some ⟨w.heap.size, 0, none⟩) need cap), w.drew.alloc (.cells (us ++ rest).toArray e), by simp only [Sem.run_bind, hs, Result.andThen_ok, Sem.run_pure], .inl ⟨_, rfl, ?_⟩, hr_alloc hr1 hn (br_new' (rest := rest) hl hφ e e 0), hu1.trans (updH_alloc hr1 hn _ _)⟩
  refine .sl (o := 0) (at_self _ _) hcap (Nat.le_refl _) (shape_new _ _) ⟨?_, hcap63⟩
  simp
  omega
theorem cell_some {B k n : Nat} {e : TypeId} (h : w.shape? B = some (e, n)) (hk : k < n) : (w.cell? ⟨B, k, none⟩).isSome = true := by
  unfold World.shape? at h
  unfold World.cell?
  cases hh : w.heap[B]? with
  | none => rw [hh] at h; cases h
  | some x =>
    rw [hh] at h
    cases x with
    | cells c t fr =>
      have h' : some (t, c.size) = some (e, n) := h
      cases h'
      show (c[k]?).isSome = true
      simp [hk]
    | _ => cases h
/-- A row that grows in its own room: a new name for its block. -/
theorem regrow (hr : HR φ w H) {b B o off at_ n : Nat} {e0 : TypeId} {l : List AV} {t0 : TypeId} {ver : Nat} (hg : H.get b = some (.cells l t0 ver)) (hb : φ b = some (B, o)) (hsh : w.shape? B = some (e0, n)) {old new : List AV} {us : List Value}
    (hold : VRm φ w old B (o + off)) (ha : at_ = o + off + old.length) (hnew : VRs φ w new us) (hroom : at_ + new.length ≤ n) (e : TypeId) :
    HR (φ.at H.next (B, o + off)) (w.setCells B at_ us) ((H.put b .dead).mk' H.next (.cells (old ++ new) e 0)) ∧ UpdH φ w H (φ.at H.next (B, o + off)) (w.setCells B at_ us) ((H.put b .dead).mk' H.next (.cells (old ++ new) e 0)) := by
  have hnone : φ H.next = none := by have := hr.blk H.next; rw [hr.next _ (Nat.le_refl _)] at this; exact this
  obtain ⟨B', o', e', m, q1, q2, q3, q4, q5⟩ := hr.cells hg
  rw [hb] at q1
  cases q1
  rw [hsh] at q2
  cases q2
  have hlen := hnew.length
  have u : Upd φ w (φ.at H.next (B, o + off)) (w.setCells B at_ us) := by
    have u0 := upd_setCells (w := w) hb at_ us
    refine ⟨u0.os, u0.tape, u0.output, u0.size, fun c p hc => ?_, fun c B' o' hc => ?_, u0.keep, u0.shape, u0.drawn⟩
    · unfold Env.at
      rw [if_neg (fun e1 => by rw [e1, hnone] at hc; cases hc)]
      exact hc
    · unfold Env.at at hc
      by_cases e1 : c = H.next
      · rw [if_pos e1] at hc
        cases hc
        exact .inl ⟨_, _, hb⟩
      · rw [if_neg e1] at hc
        exact .inl ⟨_, _, hc⟩
  have hbn : b ≠ H.next := fun e1 => by have := hr.next H.next (Nat.le_refl _); rw [← e1, hg] at this; cases this
  have uH : UpdH φ w H (φ.at H.next (B, o + off)) (w.setCells B at_ us) ((H.put b .dead).mk' H.next (.cells (old ++ new) e 0)) := by
    have hlb : live (H.get b) = true := by rw [hg]; rfl
    refine { toUpd := u, keepL := fun B' hB hn => setCells_heap B us _ w B' fun e' => hn _ _ hlb hb e'.symm, deadL := fun c h1 h2 => ?_, newL := fun c B' o' h1 h2 => ?_, stay := fun c h1 => ?_ }
    · have c1 : c ≠ H.next := fun e1 => h1 (by rw [e1]; exact hr.next _ (Nat.le_refl _))
      have c2 : c ≠ b := fun e1 => by rw [e1, hlb] at h2; cases h2
      rw [Heap.get_mk, if_neg c1, Heap.get_put, if_neg c2]
      exact ⟨h1, h2, by unfold Env.at; rw [if_neg c1]⟩
    · rw [Heap.get_mk] at h1
      unfold Env.at at h2
      by_cases c1 : c = H.next
      · rw [if_pos c1] at h2
        cases h2
        exact .inl ⟨_, _, hlb, hb⟩
      · rw [if_neg c1] at h1 h2
        rw [Heap.get_put] at h1
        by_cases c2 : c = b
        · rw [if_pos c2] at h1; cases h1
        · rw [if_neg c2] at h1
          exact .inl ⟨_, _, h1, h2⟩
    · rw [Heap.get_mk, Heap.get_put]
      by_cases c1 : c = H.next
      · rw [if_pos c1]; simp
      · rw [if_neg c1]
        by_cases c2 : c = b
        · rw [if_pos c2]; simp
        · rw [if_neg c2]; exact h1
  refine ⟨⟨fun c => ?_, fun c p hc => ?_, fun c c' p p' hl hl' hp hp' he => ?_, fun c hc => ?_⟩, uH⟩
  · rw [Heap.get_mk]
    by_cases e1 : c = H.next
    · rw [if_pos e1, e1]
      refine ⟨B, o + off, e0, n, by unfold Env.at; rw [if_pos rfl], u.shape _ _ hsh, VRm.of_get fun i x hx => ?_, (hr.thawed hg hb hsh).setCells _ _ _, by rw [List.length_append]; omega⟩
      by_cases hi : i < old.length
      · rw [List.getElem?_append_left hi] at hx
        obtain ⟨v, hv1, hv2⟩ := hold.get hx
        exact ⟨v, by rw [World.cell?_setCells_out B us _ _ _ (fun _ _ => .inl (by show o + off + i < at_; omega))]; exact hv1, hv2.upd u⟩
      · rw [List.getElem?_append_right (by omega)] at hx
        obtain ⟨v, hv1, hv2⟩ := hnew.get hx
        have hj : i - old.length < us.length := by
          rcases Nat.lt_or_ge (i - old.length) us.length with h' | h'
          · exact h'
          · rw [List.getElem?_eq_none h'] at hv1; cases hv1
        have := World.cell?_setCells_in B us at_ w (fun j hj => cell_some hsh (by omega)) (i - old.length) hj
        rw [show at_ + (i - old.length) = o + off + i by omega] at this
        rw [List.getElem?_eq_getElem hj] at hv1
        cases hv1
        exact ⟨_, this, hv2.upd u⟩
    · rw [if_neg e1, Heap.get_put]
      by_cases e2 : c = b
      · rw [if_pos e2]; trivial
      · rw [if_neg e2]
        by_cases hl : live (H.get c) = true
        · refine BR.upd hr u hl fun p hp => setCells_heap B us _ w _ fun e' => e2 ?_
          exact hr.inj c b p (B, o) hl (by rw [hg]; rfl) hp hb e'
        · rcases not_live hl with h | h
          · rw [h]
            have := hr.blk c
            rw [h] at this
            show φ.at H.next _ c = none
            unfold Env.at
            rw [if_neg e1]
            exact this
          · rw [h]; trivial
  · rw [setCells_size]
    unfold Env.at at hc
    by_cases e1 : c = H.next
    · rw [if_pos e1] at hc
      cases hc
      exact hr.lt b (B, o) hb
    · rw [if_neg e1] at hc
      exact hr.lt _ _ hc
  · rw [Heap.get_mk] at hl hl'
    unfold Env.at at hp hp'
    have L : ∀ {d : Nat} {p : Nat × Nat}, d ≠ H.next → live ((H.put b .dead).get d) = true → φ d = some p → live (H.get d) = true ∧ p.1 ≠ B := by
      intro d p hd hld hpd
      rw [Heap.get_put] at hld
      by_cases ed : d = b
      · rw [if_pos ed] at hld; cases hld
      · rw [if_neg ed] at hld
        refine ⟨hld, fun e' => ed ?_⟩
        exact hr.inj d b p (B, o) hld (by rw [hg]; rfl) hpd hb e'
    by_cases e1 : c = H.next
    · by_cases e2 : c' = H.next
      · rw [e1, e2]
      · rw [if_pos e1] at hp
        rw [if_neg e2] at hp' hl'
        cases hp
        exact absurd he.symm (L e2 hl' hp').2
    · by_cases e2 : c' = H.next
      · rw [if_neg e1] at hp hl
        rw [if_pos e2] at hp'
        cases hp'
        exact absurd he (L e1 hl hp).2
      · rw [if_neg e1] at hp hl
        rw [if_neg e2] at hp' hl'
        exact hr.inj c c' p p' (L e1 hl hp).1 (L e2 hl' hp').1 hp hp' he
  · have hc' : max H.next (H.next + 1) ≤ c := hc
    rw [Heap.get_mk, if_neg (by omega), Heap.get_put]
    have := hr.next c (by omega)
    rw [if_neg (fun ec => by rw [ec, hg] at this; cases this)]
    exact this
theorem op_append (hr : HR φ w H) {t t2 e : TypeId} (ht : P.underlying t = some (.slice e)) (ht2 : (∃ e', P.underlying t2 = some (.slice e')) ∨ P.underlying t2 = some .string) (he : has P e = true) (hb0 : 0 < P.bytesOf e ∧ P.bytesOf e ≤ 1000000) {z : List AV} (hz : zeroC P e = some z)
    {s x v : AV} {su xu : Value} (hs : VR φ w s su) (hx : VR φ w x xu) {H' : Heap} (h : appendV H (P.cellsOf e) (P.bytesOf e) e s x = some (v, H')) (ty : TypeId) :
    Leaves φ w H ((do pure (Next.value (← Builtin.append_ #[t, t2] ty #[su, xu])) : Sem Next).run P w) v H' := by
  unfold appendV at h
  split at h
  · cases h
  · rename_i n hn
    split at h
    · cases h
    · rename_i new hnew
      split at h
      · rename_i hlen2
        obtain ⟨hlen, hone⟩ := hlen2
        have hlen1 := lenV_ok (P := P) hx hn
        obtain ⟨us, g1, g2⟩ := cellsOf_ok (P := P) hr hx hnew
        obtain ⟨us', g1', g2'⟩ := cellsOf_ok (P := P) (hr_drew hr) (hx.upd upd_drew) hnew
        have hul : us.length = n * P.cellsOf e := by rw [← g1.length]; exact hlen
        have hul' : us'.length = n * P.cellsOf e := by rw [← g1'.length]; exact hlen
        split at h
        · -- nil
          split at h
          · rename_i hn0
            cases h
            cases hs
            subst hn0
            exact leaves_val hr (room_run ht ht2 he ty hlen1 g2 (Nat.le_refl _) rfl) .nils
          · rename_i hn0
            split at h
            · rename_i hmost
              cases h
              cases hs
              obtain ⟨rest, cap, q1, q2, q63, q3⟩ := grow_run (old := []) (base := none) (sLen := 0) (sCap := 0) ht ht2 hb0 hz ty hlen1 g2' (by simp [Builtin.firstCells]) (by omega) (by simpa using hmost)
              rw [List.nil_append, Nat.zero_add] at q1
              refine leaves_grow (updH_drew H) (hr_drew hr) (hr.next _ (Nat.le_refl _)) g1' e (need := n) (cap := cap) (size := P.cellsOf e) (by omega) q63 ?_ rfl q1
              rw [hul', q3, Nat.zero_add, ← Nat.add_mul]
              congr 1; omega
            · cases h
        · rename_i b off len cap sz
          rw [T.beq_dec] at h
          by_cases esz : sz = P.cellsOf e
          · rw [decide_eq_true esz, cond_true] at h
            split at h
            · rename_i hle
              split at h
              · rename_i H1 hw
                cases h
                obtain ⟨l0, t0, ver, hg, hwle, _, _⟩ := writeAt_spec hw
                obtain ⟨B, o, e', m, q1, q2, q3, q4, q5⟩ := hr.cells hg
                obtain ⟨w1, w2, w3⟩ := hr_write hr q1 hw g1
                have hst0 := run_storeCells_cells (P := P) B (o + (off + len * P.cellsOf e)) us 0 w (fun j hj => by simpa using w2 j hj) (fun j hj => by simpa using w3 j hj) (g1.one hone)
                cases hs with
                | sl hb hc hl hsh hr' =>
                  rw [q1] at hb
                  cases hb
                  rename_i c n' ty'
                  have hst : (match (some (⟨B, o + off, none⟩ : Addr)) with | some a => storeCells (a.add (len * P.cellsOf e)) us | none => pure ()).run P w = .ok () (w.setCells B (o + (off + len * P.cellsOf e)) us) := by
                    simp only [add_none]
                    rw [Nat.add_assoc]
                    simpa using hst0
                  refine ⟨φ, .value _, _, by rw [Sem.run_bind, room_run (base := some ⟨B, o + off, none⟩) (sLen := len) ht ht2 he ty hlen1 g2 (by omega) hst, Result.andThen_ok, Sem.run_pure], .inl ⟨_, rfl, ?_⟩, w1, updH_write q1 hw⟩
                  exact (VR.sl q1 hc (by omega) hsh hr').upd (upd_setCells q1 _ _)
                | sl0 a =>
                  have hn0 : n = 0 := by omega
                  subst hn0
                  have hus : us = [] := List.eq_nil_of_length_eq_zero (by simpa using hul)
                  subst hus
                  have hrun := room_run (base := some a) (sLen := 0) (sCap := 0) (w' := w) ht ht2 he ty hlen1 g2 (by omega) rfl
                  exact ⟨φ, .value (.slice (some a) 0 0), w, by rw [Sem.run_bind, hrun, Result.andThen_ok, Sem.run_pure], .inl ⟨_, rfl, .sl0 a⟩, w1, by obtain ⟨l, t, ver, hg2, _, _, rfl⟩ := writeAt_spec hw; exact updH_put q1 (by rw [hg2]; rfl) (Upd.refl _ _) (fun _ _ _ => rfl) _⟩
              · cases h
            · rename_i hnle
              split at h
              · rename_i hmost
                split at h
                · rename_i old hold
                  cases h
                  obtain ⟨uo, o1, o2⟩ := cellsOf_ok (P := P) hr hs hold
                  obtain ⟨uo', o1', o2'⟩ := cellsOf_ok (P := P) (hr_drew hr) (hs.upd upd_drew) hold
                  have hb : ∃ l e0 ver, H.get b = some (.cells l e0 ver) := by
                    simp only [cellsOf] at hold
                    split at hold
                    · split at hold
                      · rename_i l e0 ver hg; exact ⟨l, e0, ver, hg⟩
                      · cases hold
                    · cases hold
                  obtain ⟨l0, e0, ver, hg⟩ := hb
                  have hk : HR φ w.drew (H.put b .dead) := kill_ok (hr_drew hr) ⟨_, hg⟩
                  have hnx : (H.put b .dead).get H.next = none := by
                    rw [Heap.get_put, if_neg (fun e1 => by have := hr.next H.next (Nat.le_refl _); rw [e1, hg] at this; cases this)]
                    exact hr.next _ (Nat.le_refl _)
                  have olen : old.length = len * P.cellsOf e := by
                    simp only [cellsOf] at hold
                    split at hold
                    · split at hold
                      · exact (cut_spec hold).2
                      · cases hold
                    · cases hold
                  have uolen : uo'.length = len * P.cellsOf e := by rw [← o1'.length]; exact olen
                  have slow : ∀ (a : Addr) (c : Nat), su = .slice (some a) len c → c < len + n →
                      Leaves φ w H ((do pure (Next.value (← Builtin.append_ #[t, t2] ty #[su, xu])) : Sem Next).run P w) (.sl H.next 0 (len + n) (len + n) sz) ((H.put b .dead).mk' H.next (.cells (old ++ new) e 0)) := by
                    intro a c hsu hc
                    subst hsu
                    obtain ⟨rest, cap', q1, q2, q63, q3⟩ := grow_run (old := uo') ht ht2 hb0 hz ty hlen1 g2' o2' hc hmost
                    refine leaves_grow (H1 := H.put b .dead) ((updH_drew H).trans (updH_kill ⟨_, hg⟩)) hk hnx (o1'.append g1') e (need := len + n) (cap := cap') (size := sz) q2 q63 ?_ rfl q1
                    rw [List.length_append, uolen, hul', q3, esz, ← Nat.add_mul, ← Nat.add_mul]
                    congr 1; omega
                  cases hs with
                  | sl hb hc hl hsh hr' =>
                    rename_i B o c n' ty'
                    by_cases hroom : len + n ≤ c
                    · -- in place: a new name for the old block
                      subst esz
                      have hold' : VRm φ w old B (o + off) := by
                        simp only [cellsOf] at hold
                        split at hold
                        · rw [hg] at hold
                          obtain ⟨B', o', e', m, p1, p2, p3, p4, p5⟩ := hr.cells hg
                          rw [hb] at p1
                          cases p1
                          rw [(cut_spec hold).1]
                          exact (p3.drop off).take _
                        · cases hold
                      have hcm : (len + n) * P.cellsOf e ≤ c * P.cellsOf e := Nat.mul_le_mul_right _ hroom
                      rw [Nat.add_mul] at hcm
                      have hat : o + off + len * P.cellsOf e + new.length ≤ n' := by rw [hlen]; omega
                      obtain ⟨r1, r2⟩ := regrow (e0 := ty') hr hg hb hsh hold' (at_ := o + off + len * P.cellsOf e) (by rw [olen]) g1 hat e
                      obtain ⟨B', o', e', m, p1, p2, p3, p4, p5⟩ := hr.cells hg
                      rw [hb] at p1
                      cases p1
                      rw [hsh] at p2
                      cases p2
                      have hst0 := run_storeCells_cells (P := P) B (o + off + len * P.cellsOf e) us 0 w (fun j hj => cell_some hsh (by rw [← g1.length] at hj; omega)) (fun j hj => p4 _ (by rw [← g1.length] at hj; omega)) (g1.one hone)
                      have hst : (match (some (⟨B, o + off, none⟩ : Addr)) with | some a => storeCells (a.add (len * P.cellsOf e)) us | none => pure ()).run P w = .ok () (w.setCells B (o + off + len * P.cellsOf e) us) := by
                        simp only [add_none]
                        simpa using hst0
                      refine ⟨_, .value _, _, by rw [Sem.run_bind, room_run (base := some ⟨B, o + off, none⟩) (sLen := len) ht ht2 he ty hlen1 g2 hroom hst, Result.andThen_ok, Sem.run_pure], .inl ⟨_, rfl, ?_⟩, r1, r2⟩
                      have hv := VR.sl (w := w.setCells B (o + off + len * P.cellsOf e) us) (φ := φ.at H.next (B, o + off)) (b := H.next) (off := 0) (len := len + n) (cap := len + n) (sz := P.cellsOf e) (at_self _ _) hroom (Nat.le_refl _) (r2.shape _ _ hsh) (by simpa using hr')
                      simpa using hv
                    · exact slow _ c rfl (by omega)
                  | sl0 a => exact slow a 0 rfl (by omega)
                · cases h
              · cases h
          · rw [decide_eq_false esz, cond_false] at h; cases h
        · cases h
      · cases h
end
end Go.Proofs.Ytlemediphmnffaa.VM
namespace Go.Proofs.Ytlemediphmnffaa.VM
open Go.RowKit
section
variable {P : Program} {φ : Env} {w : World} {H : Heap}
theorem copy_run {t e : TypeId} {ts : Array TypeId} (h0 : ts[0]? = some t) (ht : P.underlying t = some (.slice e)) (he : has P e = true) (ty : TypeId) {base : Option Addr} {dLen dCap n : Nat} {xu : Value} {new : List Value}
    (hlen : (Builtin.lenOf xu).run P w = .ok n w) (hg : (Builtin.firstCells (P.cellsOf e) (min n dLen) xu).run P w = .ok new.toArray w) {w' : World}
    (hst : (match base with | some a => storeCells a new | none => pure ()).run P w = .ok () w') :
    (Builtin.copy_ ts ty #[.slice base dLen dCap, xu]).run P w = .ok (.int .i64 (min n dLen : Nat)) w' := by
  have hmin : Nat.min n dLen = min n dLen := rfl
  cases base with
  | none =>
    simp at hst
    subst hst
    simp [Builtin.copy_, h0, run_underlying ht, hlen, run_size he, hmin, hg, goInt]
  | some a =>
    simp only at hst
    simp [Builtin.copy_, h0, run_underlying ht, hlen, run_size he, hmin, hg, hst, goInt]
theorem op_copy (hr : HR φ w H) {t e : TypeId} {ts : Array TypeId} (h0 : ts[0]? = some t) (ht : P.underlying t = some (.slice e)) (he : has P e = true) {d x v : AV} {du xu : Value} (hd : VR φ w d du) (hx : VR φ w x xu) {H' : Heap}
    (h : copyV H (P.cellsOf e) d x = some (v, H')) (ty : TypeId) :
    Leaves φ w H ((do pure (Next.value (← Builtin.copy_ ts ty #[du, xu])) : Sem Next).run P w) v H' := by
  unfold copyV at h
  split at h
  · rename_i n m hn hm
    split at h
    · cases h
    · rename_i new hnew
      split at h
      · rename_i hlen
        have hlen1 := lenV_ok (P := P) hx hn
        obtain ⟨us, g1, g2⟩ := cellsOf_ok (P := P) hr hx hnew
        split at h
        · cases h
          cases hd
          have hm0 : m = 0 := by simpa [lenV] using hm.symm
          subst hm0
          have := copy_run (base := none) (dCap := 0) h0 ht he ty hlen1 g2 (w' := w) rfl
          refine leaves_val hr (u := .int .i64 0) ?_ (.int _ _)
          rw [this]
          simp
        · rename_i b off len cap sz
          split at h
          · rename_i H1 hw
            cases h
            obtain ⟨l0, t0, ver, hg, hwle, hone, _⟩ := writeAt_spec hw
            obtain ⟨B, o, e', m', q1, q2, q3, q4, q5⟩ := hr.cells hg
            obtain ⟨w1, w2, w3⟩ := hr_write hr q1 hw g1
            have hm' : m = len := by simpa [lenV] using hm.symm
            subst hm'
            cases hd with
            | sl hb hc hl hsh hr' =>
              rename_i c0 n0 e0
              rw [q1] at hb
              cases hb
              have hst0 := run_storeCells_cells (P := P) B (o + off) us 0 w (fun j hj => by simpa using w2 j hj) (fun j hj => by simpa using w3 j hj) (g1.one hone)
              have := copy_run (base := some ⟨B, o + off, none⟩) (dCap := c0) h0 ht he ty hlen1 g2 (w' := w.setCells B (o + off) us) (by simpa using hst0)
              exact ⟨φ, .value _, _, by rw [Sem.run_bind, this, Result.andThen_ok, Sem.run_pure], .inl ⟨_, rfl, .int _ _⟩, w1, updH_write q1 hw⟩
            | sl0 a =>
              have hus : us = [] := List.eq_nil_of_length_eq_zero (by rw [← g1.length, hlen]; simp)
              subst hus
              have := copy_run (base := some a) (dCap := 0) h0 ht he ty hlen1 g2 (w' := w) rfl
              exact ⟨φ, .value (.int .i64 (min n 0 : Nat)), w, by rw [Sem.run_bind, this, Result.andThen_ok, Sem.run_pure], .inl ⟨_, rfl, .int _ _⟩, w1, by obtain ⟨l, t, ver, hg2, _, _, rfl⟩ := writeAt_spec hw; exact updH_put q1 (by rw [hg2]; rfl) (Upd.refl _ _) (fun _ _ _ => rfl) _⟩
          · cases h
        · cases h
      · cases h
  · cases h
/-- bytes to a text -/
theorem bytes_ok : ∀ {l : List AV} {bs : List Nat} {us : List Value}, l.mapM AV.byte = some bs → VRs φ w l us → ∃ xs : List Int, us = xs.map (Value.int .u8) ∧ xs.map (fun n => (UInt8.ofNat n.toNat).toNat) = bs
  | [], bs, _, h, .nil => by simp at h; subst h; exact ⟨[], rfl, rfl⟩
  | x :: l, bs, _, h, .cons (u := u) (vs := us) hx t => by
    simp only [List.mapM_cons, Option.bind_eq_bind, Option.bind_eq_some_iff, Option.pure_def, Option.some.injEq] at h
    obtain ⟨b, hb, bs', hbs, rfl⟩ := h
    obtain ⟨xs, rfl, h2⟩ := bytes_ok hbs t
    cases hx <;> simp only [AV.byte] at hb <;> try (cases hb; done)
    rename_i k c
    cases k <;> simp only [AV.byte] at hb <;> try (cases hb; done)
    split at hb
    · rename_i hc
      cases hb
      refine ⟨c :: xs, rfl, ?_⟩
      simp only [List.map_cons, h2]
      congr 1
      rw [UInt8.toNat_ofNat']
      omega
    · cases hb
theorem op_text (hr : HR φ w H) {src dst e : TypeId} (hs : P.underlying src = some (.slice e)) (hd : P.underlying dst = some .string) (he : P.underlying e = some (.int .u8)) {x : AV} {u : Value} (hx : VR φ w x u)
    {n : Nat} (hn : lenV x = some n) {cs : List AV} (hcs : cellsOf H 1 n x = some cs) {bs : List Nat} (hb : cs.mapM AV.byte = some bs) (hns : ∀ s, x ≠ .str s) :
    Leaves φ w H ((do pure (Next.value (← Go.convert src dst u)) : Sem Next).run P w) (.str bs) H := by
  have fin : ∀ xs : List Int, xs.map (fun n => (UInt8.ofNat n.toNat).toNat) = bs → VR φ w (.str bs) (.string (strOfNums xs)) := by
    intro xs hxs
    have := VR.str (φ := φ) (w := w) (strOfNums xs)
    rw [strOfNums_data, List.map_map] at this
    rw [← hxs]
    exact this
  have empty : bs = [] → VR φ w (.str bs) (.string ByteArray.empty) := by
    rintro rfl
    exact VR.str ByteArray.empty
  have mem : ∀ {B off : Nat}, VRm φ w cs B off → ∃ xs : List Int, xs.length = cs.length ∧ xs.map (fun n => (UInt8.ofNat n.toNat).toNat) = bs ∧ ∀ i, i < cs.length → w.cell? ⟨B, off + i, none⟩ = some (.int .u8 (xs.getD i 0)) := by
    intro B off hm
    obtain ⟨us, g1, g2⟩ := hm.vals
    obtain ⟨xs, rfl, h2⟩ := bytes_ok hb g1
    have hl := g1.length
    rw [List.length_map] at hl
    refine ⟨xs, hl.symm, h2, fun i hi => g2 i _ ?_⟩
    rw [List.getElem?_map, List.getElem?_eq_getElem (by omega), Option.map_some, List.getD_eq_getElem?_getD, List.getElem?_eq_getElem (by omega)]
    rfl
  cases hx <;> simp only [lenV] at hn <;> try (cases hn; done)
  case str s => exact absurd rfl (hns _)
  case sl b off len cap sz B o c n' ty hb' hc hl hsh hr' =>
    cases hn
    simp only [cellsOf, Nat.le_refl, if_true] at hcs
    split at hcs
    · rename_i l0 e0 ver hg
      obtain ⟨e1, e2⟩ := cut_spec hcs
      obtain ⟨B', o', e', m, q1, q2, q3, q4, q5⟩ := hr.cells hg
      rw [hb'] at q1
      cases q1
      have hm := (q3.drop off).take (n * 1)
      rw [← e1] at hm
      obtain ⟨xs, x1, x2, x3⟩ := mem hm
      exact leaves_val hr (run_convert_bytes_arg w src e hs he B (o + off) n c xs (by omega) (fun i hi => x3 i (by omega)) dst hd) (fin xs x2)
    · cases hcs
  case sl0 b off sz a =>
    cases hn
    have hcs0 : cs = [] := by
      simp only [cellsOf, Nat.le_refl, if_true] at hcs
      split at hcs
      · have := (cut_spec hcs).2
        exact List.eq_nil_of_length_eq_zero (by simpa using this)
      · cases hcs
    subst hcs0
    have hb0 : bs = [] := by simpa using hb.symm
    obtain ⟨B, off', spot⟩ := a
    refine leaves_val hr (u := .string ByteArray.empty) ?_ (empty hb0)
    simp [Go.convert, run_underlying hs, run_underlying hd, run_underlying he, Conv.bytesToString, loadCells, loadCellsFrom]
  case nils =>
    cases hn
    have hcs0 : cs = [] := by simpa [cellsOf] using hcs.symm
    subst hcs0
    have hb0 : bs = [] := by simpa using hb.symm
    exact leaves_val hr (run_convert_bytes_nil w src e hs he 0 0 dst hd) (empty hb0)
  case rs0 a c =>
    cases hn
    have hcs0 : cs = [] := by
      simp only [cellsOf] at hcs
      obtain ⟨e1, e2⟩ := cut_spec hcs
      simpa using e1
    subst hcs0
    have hb0 : bs = [] := by simpa using hb.symm
    obtain ⟨B, off', spot⟩ := a
    refine leaves_val hr (u := .string ByteArray.empty) ?_ (empty hb0)
    simp [Go.convert, run_underlying hs, run_underlying hd, run_underlying he, Conv.bytesToString, loadCells, loadCellsFrom]
  case rs cl len B off c hl hB hlt hm =>
    cases hn
    obtain ⟨e1, e2⟩ := cut_spec hcs
    have hm' := hm.take (n * 1)
    rw [List.drop_zero] at e1
    rw [← e1] at hm'
    obtain ⟨xs, x1, x2, x3⟩ := mem hm'
    exact leaves_val hr (run_convert_bytes_arg w src e hs he B off n c xs (by omega) (fun i hi => x3 i (by omega)) dst hd) (fin xs x2)
def lenO (H : Heap) (k : Nat) (x : AV) : Out := match k, x with
  | 0, .str s => .val (.int .i64 s.length) H
  | 1, .sl _ _ n _ _ => .val (.int .i64 n) H
  | 1, .nils => .val (.int .i64 0) H
  | 1, .rs _ n => .val (.int .i64 n) H
  | 2, .map b => (match H.get b with | some (.map es _) => .val (.int .i64 es.length) H | _ => .fail)
  | 2, .nilm => .val (.int .i64 0) H
  | _, _ => .fail
theorem op_len (hr : HR φ w H) {t : TypeId} {ts : Array TypeId} (h0 : ts[0]? = some t) {x v : AV} {u : Value} (hx : VR φ w x u) (ty : TypeId) {k : Nat} {H' : Heap} (h : lenO H k x = .val v H')
    (ht : (k = 0 ∧ P.underlying t = some .string) ∨ (k = 1 ∧ ∃ e, P.underlying t = some (.slice e)) ∨ (k = 2 ∧ ∃ a b, P.underlying t = some (.map a b))) :
    Leaves φ w H ((do pure (Next.value (← Builtin.len_ ts ty #[u])) : Sem Next).run P w) v H' := by
  rcases ht with ⟨rfl, ht⟩ | ⟨rfl, e, ht⟩ | ⟨rfl, a, b, ht⟩
  · cases hx <;> simp only [lenO] at h <;> try (cases h; done)
    case str s =>
      cases h
      refine leaves_val hr (u := .int .i64 s.size) (by simp [Builtin.len_, h0, run_underlying ht, goInt]) ?_
      rw [show ((List.map (fun c : UInt8 => c.toNat) s.data.toList).length) = s.size from tx_length s]
      exact .int _ _
  · cases hx <;> simp only [lenO] at h <;> first
      | (cases h; done)
      | (cases h; exact leaves_val hr (by simp [Builtin.len_, h0, run_underlying ht, goInt]) (.int _ _))
      | (cases h; exact leaves_val hr (u := .int .i64 0) (by simp [Builtin.len_, h0, run_underlying ht, goInt]) (.int _ _))
  · cases hx <;> simp only [lenO] at h <;> try (cases h; done)
    case map b' B o hb =>
      split at h
      · rename_i es ver hg
        cases h
        have := hr.blk b'
        rw [hg] at this
        obtain ⟨B, o, vs, clock, g1, g2, g3, g4, g5⟩ := this
        rw [hb] at g1
        cases g1
        have hl := g3.length
        refine leaves_val hr (u := .int .i64 vs.size) ?_ ?_
        · simp [Builtin.len_, h0, run_underlying ht, Go.MapKept.run_getObj_map g2, goInt]
        · rw [show es.length = vs.size by simpa using hl]
          exact .int _ _
      · cases h
    case nilm =>
      cases h
      exact leaves_val hr (by simp [Builtin.len_, h0, run_underlying ht, goInt]) (.int _ _)
theorem stm_nil (c : Nat) : Stm #[] c := ⟨fun x hx => by simp at hx, by simp⟩
theorem op_mkmap (hr : HR φ w H) {nm : Nat} (hn : H.get nm = none) (t : TypeId) : Leaves φ w H ((do pure (Next.value (← Instr.makeMap t none)) : Sem Next).run P w) (.map nm) (H.mk' nm (.map [] 0)) := by
  have hφ : φ nm = none := by have := hr.blk nm; rw [hn] at this; exact this
  refine ⟨φ.at nm (w.heap.size, 0), .value (.map (some w.heap.size)), w.alloc (.map #[] 0), by simp [Instr.makeMap], .inl ⟨_, rfl, .map (o := 0) (at_self _ _)⟩, hr_alloc hr hn ?_, updH_alloc hr hn _ _⟩
  exact ⟨w.heap.size, 0, #[], 0, at_self _ _, heap_alloc_new _ _, .nil, .nil, stm_nil 0⟩
end
open Go.RowKit
section
variable {P : Program} {φ : Env} {w : World} {H : Heap}
theorem stm_push {vs : Array MapEntry} {clock : Nat} (h : Stm vs clock) {k v : Value} : Stm (vs.push { key := k, val := v, born := clock }) (clock + 1) := by
  obtain ⟨h1, h2⟩ := h
  refine ⟨fun x hx => ?_, ?_⟩
  · rw [Array.toList_push] at hx
    rcases List.mem_append.1 hx with hx | hx
    · have := h1 x hx; omega
    · rw [List.mem_singleton.1 hx]; exact Nat.lt_succ_self _
  · rw [Array.toList_push, List.map_append, List.nodup_append]
    refine ⟨h2, by simp, fun a ha b hb e => ?_⟩
    obtain ⟨x, hx, rfl⟩ := List.mem_map.1 ha
    have := h1 x hx
    simp at hb
    omega
theorem stm_set {vs vs' : Array MapEntry} {clock j : Nat} (h : Stm vs clock) {e : MapEntry} {k v : Value} (hj : vs[j]? = some e) (hm : vs'.toList = vs.toList.set j { e with key := k, val := v }) : Stm vs' clock := by
  obtain ⟨h1, h2⟩ := h
  have hj' : vs.toList[j]? = some e := by simpa using hj
  have hb : (vs'.toList.map (·.born)) = vs.toList.map (·.born) := by
    rw [hm, List.map_set]
    apply List.ext_getElem?
    intro i
    rw [List.getElem?_set]
    split
    · rename_i c
      subst c
      split
      · rw [List.getElem?_map, hj']; rfl
      · rename_i c
        rw [List.getElem?_eq_none (by omega)]
    · rfl
  refine ⟨fun x hx => ?_, by rw [hb]; exact h2⟩
  have : x.born ∈ vs'.toList.map (·.born) := List.mem_map.2 ⟨x, hx, rfl⟩
  rw [hb] at this
  obtain ⟨y, hy, e2⟩ := List.mem_map.1 this
  have := h1 y hy
  omega
theorem stm_erase {vs vs' : Array MapEntry} {clock j : Nat} (h : Stm vs clock) (hm : vs'.toList = vs.toList.eraseIdx j) : Stm vs' clock := by
  obtain ⟨h1, h2⟩ := h
  have s : vs'.toList.Sublist vs.toList := by rw [hm]; exact List.eraseIdx_sublist _ _
  exact ⟨fun x hx => h1 x (s.subset hx), h2.sublist (s.map _)⟩
theorem HR.map (hr : HR φ w H) {b : Nat} {es : List (AV × AV)} {ver : Nat} (h : H.get b = some (.map es ver)) :
    ∃ B o vs clock, φ b = some (B, o) ∧ w.heap[B]? = some (.map vs clock) ∧ VRs φ w (es.map (·.1)) (vs.toList.map (·.key)) ∧ VRs φ w (es.map (·.2)) (vs.toList.map (·.val)) ∧ Stm vs clock := by
  have := hr.blk b
  rw [h] at this
  exact this
theorem map_write (hr : HR φ w H) {b : Nat} {es : List (AV × AV)} {ver : Nat} (hg : H.get b = some (.map es ver)) {B o : Nat} (hb : φ b = some (B, o)) {vs : Array MapEntry} {clock : Nat} (hh : w.heap[B]? = some (.map vs clock))
    {es' : List (AV × AV)} (ver' : Nat) {vs' : Array MapEntry} (clock' : Nat) (hk : VRs φ w (es'.map (·.1)) (vs'.toList.map (·.key))) (hv : VRs φ w (es'.map (·.2)) (vs'.toList.map (·.val))) (hst : Stm vs' clock') :
    HR φ { w with heap := w.heap.setIfInBounds B (.map vs' clock') } (H.put b (.map es' ver')) ∧ UpdH φ w H φ { w with heap := w.heap.setIfInBounds B (.map vs' clock') } (H.put b (.map es' ver')) := by
  obtain ⟨s1, s2⟩ := Go.MapKept.heap_set (o' := .map vs' clock') hh
  have u : Upd φ w φ { w with heap := w.heap.setIfInBounds B (.map vs' clock') } := by
    refine ⟨rfl, rfl, rfl, by simp, fun _ _ h => h, fun _ _ _ h => .inl ⟨_, _, h⟩, fun B' _ hn => s2 B' (fun e => hn _ _ hb e.symm), fun B' x hx => ?_, dr_le (Nat.le_refl _)⟩
    by_cases e : B' = B
    · subst e
      simp [World.shape?, hh] at hx
    · simpa only [World.shape?, s2 B' e] using hx
  refine ⟨⟨fun c => ?_, fun c p hc => ?_, fun c c' p p' hl hl' hp hp' he => ?_, fun c hc => ?_⟩, updH_put hb (by rw [hg]; rfl) u (fun B' _ hne => s2 B' hne) _⟩
  · rw [Heap.get_put]
    by_cases e : c = b
    · rw [if_pos e, e]
      exact ⟨B, o, vs', clock', hb, s1, hk.upd u, hv.upd u, hst⟩
    · rw [if_neg e]
      by_cases hl : live (H.get c) = true
      · refine BR.upd hr u hl fun p hp => s2 p.1 fun eB => ?_
        exact e (hr.inj c b p (B, o) hl (by rw [hg]; rfl) hp hb eB)
      · rcases not_live hl with h | h
        · have := hr.blk c
          rw [h] at this ⊢
          exact this
        · rw [h]; trivial
  · have := hr.lt c p hc
    simpa using this
  · refine hr.inj c c' p p' ?_ ?_ hp hp' he
    · rw [Heap.get_put] at hl
      by_cases e : c = b
      · rw [e, hg]; rfl
      · rwa [if_neg e] at hl
    · rw [Heap.get_put] at hl'
      by_cases e : c' = b
      · rw [e, hg]; rfl
      · rwa [if_neg e] at hl'
  · rw [Heap.get_put]
    have hn : H.get c = none := hr.next c hc
    by_cases e : c = b
    · rw [e, hg] at hn; cases hn
    · rw [if_neg e]; exact hn
theorem sameK_now {kt : TypeId} {c : EqC} (hk : keyC P kt = some c) : ∃ d, P.underlying kt = some d ∧ (∀ {x y : AV} {u v : Value} {r : Bool}, VR φ w x u → VR φ w y v → sameK c x y = some r → Instr.sameNow d u v = some r ∧ (r = true → Go.Instr.sameBits 10000 v u = true)) := by
  unfold keyC at hk
  split at hk
  · rename_i k0 ht
    cases hk
    refine ⟨_, ht, fun {x y u v r} hx hy h => ?_⟩
    cases hx <;> cases hy <;> simp only [sameK] at h <;> try (cases h; done)
    rename_i k n k' m
    split at h
    · rename_i ek
      subst ek
      cases h
      constructor
      · simp only [Instr.sameNow, if_true]; congr 1
      · intro hd
        simp only [decide_eq_true_eq] at hd
        subst hd
        simp [Instr.sameBits]
    · cases h
  · rename_i ht
    cases hk
    refine ⟨_, ht, fun {x y u v r} hx hy h => ?_⟩
    cases hx <;> cases hy <;> simp only [sameK] at h <;> try (cases h; done)
    rename_i a c
    cases h
    refine ⟨rfl, fun hd => ?_⟩
    simp only [beq_iff_eq] at hd
    subst hd
    simp [Instr.sameBits]
  · rename_i ht
    cases hk
    refine ⟨_, ht, fun {x y u v r} hx hy h => ?_⟩
    cases hx <;> cases hy <;> simp only [sameK] at h <;> try (cases h; done)
    rename_i a c
    cases h
    have e : (a == c) = (List.map (fun c : UInt8 => c.toNat) a.data.toList == List.map (fun c : UInt8 => c.toNat) c.data.toList) := by
      rw [Bool.eq_iff_iff, Go.MapKept.bytes_beq, beq_iff_eq, tx_inj]
      constructor
      · rintro rfl; rfl
      · intro h
        obtain ⟨⟨a⟩⟩ := a
        obtain ⟨⟨c⟩⟩ := c
        simp only at h
        rw [h]
    constructor
    · simp only [Instr.sameNow]
      rw [e]
    · intro hd
      rw [← e, Go.MapKept.bytes_beq] at hd
      subst hd
      simp only [Instr.sameBits]
      exact (Go.MapKept.bytes_beq _ _).2 rfl
  · cases hk
/-- what the search finds -/
theorem find_ok {d : TypeDesc} {c : EqC} (hd : ∀ {x y : AV} {u v : Value} {r : Bool}, VR φ w x u → VR φ w y v → sameK c x y = some r → Instr.sameNow d u v = some r ∧ (r = true → Go.Instr.sameBits 10000 v u = true))
    {k : AV} {u : Value} (hk : VR φ w k u) : ∀ {es : List (AV × AV)} {vs : List MapEntry} (i : Nat) {r : Option AV}, VRs φ w (es.map (·.1)) (vs.map (·.key)) → VRs φ w (es.map (·.2)) (vs.map (·.val)) → findE c k es = some r →
    (r = none ∧ Instr.findNow d u vs i = some none ∧ (∀ v, updE c k v es = es ++ [(k, v)]) ∧ delE c k es = es) ∨
    (∃ j e x, r = some x ∧ Instr.findNow d u vs i = some (some (i + j, e.val)) ∧ vs[j]? = some e ∧ VR φ w x e.val ∧ Go.Instr.sameBits 10000 e.key u = true ∧ (∀ v, updE c k v es = es.set j (k, v)) ∧ delE c k es = es.eraseIdx j)
  | [], [], i, r, _, _, h => by
    cases h
    exact .inl ⟨rfl, rfl, fun _ => rfl, rfl⟩
  | e :: es, e' :: vs, i, r, hks, hvs, h => by
    cases hks with
    | cons h1 t1 =>
      cases hvs with
      | cons h2 t2 =>
        simp only [findE] at h
        split at h
        · rename_i hs
          cases h
          obtain ⟨a1, a2⟩ := hd hk h1 hs
          exact .inr ⟨0, e', e.2, rfl, by simp [Instr.findNow, a1], rfl, h2, a2 rfl, fun v => by simp [updE, hs], by simp [delE, hs]⟩
        · rename_i hs
          obtain ⟨a1, a2⟩ := hd hk h1 hs
          rcases find_ok hd hk (i + 1) t1 t2 h with ⟨b1, b2, b3, b4⟩ | ⟨j, e2, x, b1, b2, b3, b4, b5, b6, b7⟩
          · exact .inl ⟨b1, by simp [Instr.findNow, a1, b2], fun v => by simp [updE, hs, b3], by simp [delE, hs, b4]⟩
          · exact .inr ⟨j + 1, e2, x, b1, by simp [Instr.findNow, a1, b2]; omega, by simpa using b3, b4, b5, fun v => by simp [updE, hs, b6], by simp [delE, hs, b7]⟩
        · cases h
  | [], _ :: _, _, _, h, _, _ => by cases h
  | _ :: _, [], _, _, h, _, _ => by cases h
theorem key_checks {kt : TypeId} {c : EqC} (hk : keyC P kt = some c) (e : Bool) (n : Nat) (u : Value) : (Instr.checkKey e (n + 1) kt u).run P w = .ok () w := by
  unfold keyC at hk
  unfold Instr.checkKey
  split at hk
  · rename_i k0 ht
    simp [run_underlying ht]
  · rename_i ht
    simp [run_underlying ht]
  · rename_i ht
    simp [run_underlying ht]
  · cases hk
theorem VRs.set {x : AV} {u : Value} (hx : VR φ w x u) : ∀ {l : List AV} {vs : List Value}, VRs φ w l vs → ∀ (j : Nat), VRs φ w (l.set j x) (vs.set j u)
  | _, _, .nil, _ => .nil
  | _, _, .cons _ t, 0 => .cons hx t
  | _, _, .cons h t, j + 1 => .cons h (VRs.set hx t j)
theorem VRs.erase : ∀ {l : List AV} {vs : List Value}, VRs φ w l vs → ∀ (j : Nat), VRs φ w (l.eraseIdx j) (vs.eraseIdx j)
  | _, _, .nil, _ => .nil
  | _, _, .cons _ t, 0 => t
  | _, _, .cons h t, j + 1 => .cons h (VRs.erase t j)
theorem map_erase {α β : Type} (f : α → β) : ∀ (l : List α) (j : Nat), (l.eraseIdx j).map f = (l.map f).eraseIdx j
  | [], _ => rfl
  | _ :: _, 0 => rfl
  | a :: l, j + 1 => by simp [List.eraseIdx, map_erase f l j]
theorem op_lookup (hr : HR φ w H) {t kt e : TypeId} (ht : P.underlying t = some (.map kt e)) {c : EqC} (hc : keyC P kt = some c) {z : Value} (hz : (P.info? e).bind (·.zero) = some z) {zv : AV} (hzv : avOf z = some zv)
    {m k : AV} {mu ku : Value} (hm : VR φ w m mu) (hk : VR φ w k ku) {r : Option AV}
    (h : (match m with
      | .nilm => some none
      | .map b => (match H.get b with | some (.map es _) => findE c k es | _ => none)
      | _ => none) = some r) (ok : Bool) :
    Leaves φ w H ((do pure (Next.value (← Instr.lookup t mu ku ok)) : Sem Next).run P w) (if ok then .tup [r.getD zv, .bool r.isSome] else r.getD zv) H := by
  obtain ⟨d, hd, hsame⟩ := sameK_now (φ := φ) (w := w) hc
  obtain ⟨ti, h1, h2⟩ := Option.bind_eq_some_iff.1 hz
  have hz' : (zeroValue e).run P w = .ok z w := run_zero h1 h2
  have out : ∀ (v : Value) (x : AV) (b : Bool), VR φ w x v → VR φ w (if ok then .tup [x, .bool b] else x) (if ok then Value.tuple #[v, .bool b] else v) := by
    intro v x b hv
    cases ok with
    | true => exact .tup (vs := #[v, .bool b]) (.cons hv (.cons (.bool b) .nil))
    | false => exact hv
  cases hm <;> simp only at h <;> try (cases h; done)
  case map b B o hb =>
    split at h
    · rename_i es ver hg
      obtain ⟨B', o', vs, clock, g1, g2, g3, g4, g5⟩ := hr.map hg
      rw [hb] at g1
      cases g1
      rcases find_ok hsame hk 0 g3 g4 h with ⟨b1, b2, b3, b4⟩ | ⟨j, e2, x, b1, b2, b3, b4, b5, b6, b7⟩
      · subst b1
        refine leaves_val hr ?_ (out z zv false (avOf_ok hzv))
        simp [Instr.lookup, run_underlying ht, Go.MapKept.run_getObj_map g2, key_checks hc, Go.MapKept.run_findKey hd b2, hz']
      · subst b1
        refine leaves_val hr ?_ (out e2.val x true b4)
        simp [Instr.lookup, run_underlying ht, Go.MapKept.run_getObj_map g2, key_checks hc, Go.MapKept.run_findKey hd b2]
    · cases h
  case nilm =>
    cases h
    refine leaves_val hr ?_ (out z zv false (avOf_ok hzv))
    have : Instr.findNow d ku [] 0 = some none := rfl
    simp [Instr.lookup, run_underlying ht, key_checks hc, Go.MapKept.run_findKey hd this, hz']
theorem op_mupd (hr : HR φ w H) {t kt e : TypeId} (ht : P.underlying t = some (.map kt e)) {c : EqC} (hc : keyC P kt = some c) {k v : AV} {b : Nat} {mu ku vu : Value} (hm : VR φ w (.map b) mu) (hk : VR φ w k ku) (hv : VR φ w v vu)
    {es : List (AV × AV)} {ver : Nat} (hg : H.get b = some (.map es ver)) {r : Option AV} (h : findE c k es = some r) :
    Leaves φ w H ((do Instr.mapUpdate t mu ku vu; pure Next.skip : Sem Next).run P w) .undef (H.put b (.map (updE c k v es) (ver + 1))) := by
  obtain ⟨d, hd, hsame⟩ := sameK_now (φ := φ) (w := w) hc
  cases hm with
  | map hb =>
    obtain ⟨B', o', vs, clock, g1, g2, g3, g4, g5⟩ := hr.map hg
    rw [hb] at g1
    cases g1
    rcases find_ok hsame hk 0 g3 g4 h with ⟨b1, b2, b3, b4⟩ | ⟨j, e2, x, b1, b2, b3, b4, b5, b6, b7⟩
    · rw [b3]
      obtain ⟨x1, x2⟩ := map_write hr hg hb g2 (es' := es ++ [(k, v)]) (ver + 1) (vs' := vs.push { key := ku, val := vu, born := clock }) (clock + 1)
        (by simpa using g3.append (.cons hk .nil)) (by simpa using g4.append (.cons hv .nil)) (stm_push g5)
      refine ⟨φ, .skip, _, ?_, .inr ⟨rfl, rfl⟩, x1, x2⟩
      simp [Instr.mapUpdate, run_underlying ht, Go.MapKept.run_getObj_map g2, key_checks hc, Go.MapKept.run_findKey hd b2, Go.MapKept.run_setObj_map _ g2]
    · rw [b6]
      have hj : vs[j]? = some e2 := by simpa using b3
      have hmod : (vs.modify j fun e => { e with key := ku, val := vu }).toList = vs.toList.set j { e2 with key := ku, val := vu } := by
        apply List.ext_getElem?
        intro i
        simp only [Array.getElem?_toList, Array.getElem?_modify, List.getElem?_set]
        by_cases hij : j = i
        · subst hij
          have hlt : j < vs.size := by
            rcases Nat.lt_or_ge j vs.size with h | h
            · exact h
            · rw [Array.getElem?_eq_none h] at hj; cases hj
          have hgj : vs[j] = e2 := by
            rw [Array.getElem?_eq_getElem hlt] at hj
            exact Option.some.inj hj
          simp [hgj, hlt]
        · simp [hij]
      obtain ⟨x1, x2⟩ := map_write hr hg hb g2 (es' := es.set j (k, v)) (ver + 1) (vs' := vs.modify j fun e => { e with key := ku, val := vu }) clock
        (by rw [hmod, List.map_set, List.map_set]; exact VRs.set hk g3 j) (by rw [hmod, List.map_set, List.map_set]; exact VRs.set hv g4 j) (stm_set g5 hj hmod)
      refine ⟨φ, .skip, _, ?_, .inr ⟨rfl, rfl⟩, x1, x2⟩
      simp [Instr.mapUpdate, run_underlying ht, Go.MapKept.run_getObj_map g2, key_checks hc, Go.MapKept.run_findKey hd b2, hj, Instr.keyThatStays, b5, Go.MapKept.run_setObj_map _ g2]
theorem op_delete (hr : HR φ w H) {t kt e : TypeId} {ts : Array TypeId} (h0 : ts[0]? = some t) (ht : P.underlying t = some (.map kt e)) {c : EqC} (hc : keyC P kt = some c) {k : AV} {b : Nat} {mu ku : Value} (hm : VR φ w (.map b) mu) (hk : VR φ w k ku)
    {es : List (AV × AV)} {ver : Nat} (hg : H.get b = some (.map es ver)) {r : Option AV} (h : findE c k es = some r) (ty : TypeId) :
    Leaves φ w H ((do pure (Next.value (← Builtin.delete_ ts ty #[mu, ku])) : Sem Next).run P w) (.tup []) (H.put b (.map (delE c k es) (ver + 1))) := by
  obtain ⟨d, hd, hsame⟩ := sameK_now (φ := φ) (w := w) hc
  cases hm with
  | map hb =>
    obtain ⟨B', o', vs, clock, g1, g2, g3, g4, g5⟩ := hr.map hg
    rw [hb] at g1
    cases g1
    rcases find_ok hsame hk 0 g3 g4 h with ⟨b1, b2, b3, b4⟩ | ⟨j, e2, x, b1, b2, b3, b4, b5, b6, b7⟩
    · rw [b4]
      obtain ⟨x1, x2⟩ := map_write hr hg hb g2 (es' := es) (ver + 1) (vs' := vs) clock g3 g4 g5
      refine ⟨φ, .value (.tuple #[]), _, ?_, .inl ⟨_, rfl, .tup (vs := #[]) .nil⟩, x1, x2⟩
      simp [Builtin.delete_, h0, run_underlying ht, Go.MapKept.run_getObj_map g2, key_checks hc, Go.MapKept.run_findKey hd b2, Go.MapKept.run_setObj_map _ g2]
    · rw [b7]
      have hlt : j < vs.size := by
        rcases Nat.lt_or_ge j vs.size with h | h
        · exact h
        · rw [List.getElem?_eq_none (by simpa using h)] at b3; cases b3
      have hmod : (vs.eraseIdxIfInBounds j).toList = vs.toList.eraseIdx j := by
        unfold Array.eraseIdxIfInBounds
        rw [dif_pos hlt, Array.toList_eraseIdx]
      obtain ⟨x1, x2⟩ := map_write hr hg hb g2 (es' := es.eraseIdx j) (ver + 1) (vs' := vs.eraseIdxIfInBounds j) clock
        (by rw [hmod, map_erase, map_erase]; exact g3.erase j) (by rw [hmod, map_erase, map_erase]; exact g4.erase j) (stm_erase g5 hmod)
      refine ⟨φ, .value (.tuple #[]), _, ?_, .inl ⟨_, rfl, .tup (vs := #[]) .nil⟩, x1, x2⟩
      simp [Builtin.delete_, h0, run_underlying ht, Go.MapKept.run_getObj_map g2, key_checks hc, Go.MapKept.run_findKey hd b2, Go.MapKept.run_setObj_map _ g2]
theorem op_clear (hr : HR φ w H) {t kt e : TypeId} {ts : Array TypeId} (h0 : ts[0]? = some t) (ht : P.underlying t = some (.map kt e)) {b : Nat} {mu : Value} (hm : VR φ w (.map b) mu)
    {es : List (AV × AV)} {ver : Nat} (hg : H.get b = some (.map es ver)) (ty : TypeId) :
    Leaves φ w H ((do pure (Next.value (← Builtin.clear_ ts ty #[mu])) : Sem Next).run P w) (.tup []) (H.put b (.map [] (ver + 1))) := by
  cases hm with
  | map hb =>
    obtain ⟨B', o', vs, clock, g1, g2, g3, g4, g5⟩ := hr.map hg
    rw [hb] at g1
    cases g1
    obtain ⟨x1, x2⟩ := map_write hr hg hb g2 (es' := []) (ver + 1) (vs' := #[]) clock .nil .nil (stm_nil _)
    refine ⟨φ, .value (.tuple #[]), _, ?_, .inl ⟨_, rfl, .tup (vs := #[]) .nil⟩, x1, x2⟩
    simp [Builtin.clear_, h0, run_underlying ht, Go.MapKept.run_getObj_map g2, Go.MapKept.run_setObj_map _ g2]
theorem op_clear_nil (hr : HR φ w H) {t kt e : TypeId} {ts : Array TypeId} (h0 : ts[0]? = some t) (ht : P.underlying t = some (.map kt e)) {mu : Value} (hm : VR φ w .nilm mu) (ty : TypeId) :
    Leaves φ w H ((do pure (Next.value (← Builtin.clear_ ts ty #[mu])) : Sem Next).run P w) (.tup []) H := by
  cases hm
  exact leaves_val hr (u := .tuple #[]) (by simp [Builtin.clear_, h0, run_underlying ht]) (.tup (vs := #[]) .nil)
theorem op_clear_sl (hr : HR φ w H) {t e : TypeId} {ts : Array TypeId} (h0 : ts[0]? = some t) (ht : P.underlying t = some (.slice e)) {z : List AV} (hz : zeroC P e = some z) (hpos : 0 < z.length) {b off len cap sz : Nat} (hl : len ≠ 0) {mu : Value} (hm : VR φ w (.sl b off len cap sz) mu)
    {H' : Heap} (hw : writeAt H b off (List.replicate len z).flatten = some H') (ty : TypeId) :
    Leaves φ w H ((do pure (Next.value (← Builtin.clear_ ts ty #[mu])) : Sem Next).run P w) (.tup []) H' := by
  obtain ⟨i, v, h1, h2, h3, h4, h5, h6, h7⟩ := zero_row (φ := φ) (w := w) hz hpos len
  obtain ⟨l0, t0, ver, hg, hwle, hone, _⟩ := writeAt_spec hw
  cases hm with
  | sl hb hc hl' hsh hr' =>
    rename_i c0 n0 e0 o0 B0
    obtain ⟨w1, w2, w3⟩ := hr_write hr hb hw h7
    have hst0 := run_storeCells_cells (P := P) _ _ _ 0 w (fun j hj => by simpa using w2 j hj) (fun j hj => by simpa using w3 j hj) (h7.one hone)
    rw [Nat.add_zero] at hst0
    have hzc : (Builtin.zeroCells v.cells len).toList = (List.replicate len v.cells.toList).flatten := by
      have h6' := congrArg Array.toList h6
      rw [h3, ← h4] at h6'
      simpa [Builtin.zeroCells] using h6'
    refine ⟨φ, .value (.tuple #[]), _, ?_, .inl ⟨_, rfl, .tup (vs := #[]) .nil⟩, w1, updH_write hb hw⟩
    have hzv : (zeroValue e).run P w = .ok v w := by simp [zeroValue, typeInfo, h1, h2]
    cases len with
    | zero => exact absurd rfl hl
    | succ len =>
      simp only [Builtin.clear_, h0, List.getElem?_toArray, List.getElem?_cons_zero, Sem.run_bind, run_underlying ht, Result.andThen_ok, hzv, hzc, hst0, Sem.run_pure]
  | sl0 a => exact absurd rfl hl
theorem op_clear_sl0 (hr : HR φ w H) {t e : TypeId} {ts : Array TypeId} (h0 : ts[0]? = some t) (ht : P.underlying t = some (.slice e)) {x : AV} (hx : x = .nils ∨ ∃ b off cap sz, x = .sl b off 0 cap sz) {mu : Value} (hm : VR φ w x mu) (ty : TypeId) :
    Leaves φ w H ((do pure (Next.value (← Builtin.clear_ ts ty #[mu])) : Sem Next).run P w) (.tup []) H := by
  rcases hx with rfl | ⟨b, off, cap, sz, rfl⟩ <;> cases hm
  · exact leaves_val hr (u := .tuple #[]) (by simp [Builtin.clear_, h0, run_underlying ht]) (.tup (vs := #[]) .nil)
  · exact leaves_val hr (u := .tuple #[]) (by simp [Builtin.clear_, h0, run_underlying ht]) (.tup (vs := #[]) .nil)
  · exact leaves_val hr (u := .tuple #[]) (by simp [Builtin.clear_, h0, run_underlying ht]) (.tup (vs := #[]) .nil)
end
end Go.Proofs.Ytlemediphmnffaa.VM
namespace Go.Proofs.Ytlemediphmnffaa.VM
open Go.RowKit
/-- A function that is entered. -/
def Enters (P : Program) (f : Nat) : Prop := ∃ fn, P.funcs[f]? = some fn ∧ fn.body.isSome = true ∧ fn.name ≠ "runtime.NumGoroutine"
/-- What an operation comes to, next to what the small machine's comes to. -/
def OutOk (P : Program) (φ : Env) (w : World) (H : Heap) (r : Result Next) : Out → Prop
  | .fail => True
  | .val v h => Leaves φ w H r v h
  | .enter f args => (f < YB → Enters P f → ∃ us : Array Value, r = .ok (.enter f us) w ∧ VRs φ w args us.toList) ∧
      (YB ≤ f → ∃ us : Array Value, VRs φ w args us.toList ∧ ∀ B o rec, φ (f - YB) = some (B, o) → w.heap[B]? = some (.loop rec) → us.size = rec.params.size →
        r = .ok (.round B rec.fn ((rec.params.zip us).foldl (fun tmps (t, a) => tmps.setIfInBounds t a) rec.tmps) rec.assign rec.body) w)
section
variable {P : Program} {φ : Env} {w : World} {H : Heap}
theorem okO {r : Result Next} {x : Option AV} (h : ∀ v, x = some v → Leaves φ w H r v H) : OutOk P φ w H r (valO H x) := by
  cases x with
  | none => trivial
  | some v => exact h v rfl
theorem okH {r : Result Next} {x : Option (AV × Heap)} (h : ∀ v h', x = some (v, h') → Leaves φ w H r v h') : OutOk P φ w H r (valH x) := by
  cases x with
  | none => trivial
  | some v => exact h v.1 v.2 rfl
theorem run_callFunc {f : Nat} (he : Enters P f) (us : Array Value) : (callFunc f us).run P w = .ok (.enter f us) w := by
  obtain ⟨fn, h1, h2, h3⟩ := he
  have h3' : (fn.name == "runtime.NumGoroutine") = false := by simpa using h3
  have h2' : fn.body.isNone = false := by
    cases hb : fn.body with
    | none => rw [hb] at h2; cases h2
    | some c => rfl
  simp only [callFunc, Sem.run_bind, run_program, Result.andThen_ok, h1, h3', h2', Bool.false_eq_true, if_false]
  rfl
theorem max_ok (P : Program) : ∀ {l : List AV} {us : List Value} {x v : AV} {u : Value}, VR φ w x u → VRs φ w l us → foldO max2 x l = some v → ∃ r, (us.foldlM Builtin.max2 u).run P w = .ok r w ∧ VR φ w v r
  | [], [], x, v, u, hx, _, h => by cases h; exact ⟨u, rfl, hx⟩
  | y :: l, z :: us, x, v, u, hx, .cons hy t, h => by
    simp only [foldO] at h
    split at h
    · rename_i z' hz
      cases hx <;> cases hy <;> simp only [max2] at hz <;> try (cases hz; done)
      cases hz
      rename_i k n k' m
      obtain ⟨r, h1, h2⟩ := max_ok P (VR.int k _) t h
      exact ⟨r, by simpa [List.foldlM, Builtin.max2] using h1, h2⟩
    · cases h
theorem min_ok (P : Program) : ∀ {l : List AV} {us : List Value} {x v : AV} {u : Value}, VR φ w x u → VRs φ w l us → foldO min2 x l = some v → ∃ r, (us.foldlM Builtin.min2 u).run P w = .ok r w ∧ VR φ w v r
  | [], [], x, v, u, hx, _, h => by cases h; exact ⟨u, rfl, hx⟩
  | y :: l, z :: us, x, v, u, hx, .cons hy t, h => by
    simp only [foldO] at h
    split at h
    · rename_i z' hz
      cases hx <;> cases hy <;> simp only [min2] at hz <;> try (cases hz; done)
      cases hz
      rename_i k n k' m
      obtain ⟨r, h1, h2⟩ := min_ok P (VR.int k _) t h
      exact ⟨r, by simpa [List.foldlM, Builtin.min2] using h1, h2⟩
    · cases h
theorem opto_ok {nt : Nat} {st : St} {a : Act} (hs : SR φ w nt st a) {o : Option Operand} {y : Option Opd} (h : optO o = some y) : VRo φ w (y.map (·.eval st)) (o.map a.eval) := by
  cases o with
  | none => cases h; trivial
  | some x =>
    obtain ⟨z, hz, rfl⟩ := Option.map_eq_some_iff.1 h
    exact opd_ok hs hz
theorem one_arg {x : AV} {us : Array Value} (h : VRs φ w [x] us.toList) : ∃ u, us = #[u] ∧ VR φ w x u := by
  obtain ⟨us⟩ := us
  cases h with
  | cons h t => cases t; exact ⟨_, rfl, h⟩
theorem two_args {x y : AV} {us : Array Value} (h : VRs φ w [x, y] us.toList) : ∃ u v, us = #[u, v] ∧ VR φ w x u ∧ VR φ w y v := by
  obtain ⟨us⟩ := us
  cases h with
  | cons h t => cases t with
    | cons h' t => cases t; exact ⟨_, _, rfl, h, h'⟩
theorem VRs.two' {us : Array Value} {x y : AV} (h : VRs φ w [x, y] us.toList) : ∃ u v, us = #[u, v] ∧ VR φ w x u ∧ VR φ w y v := by
  cases us with | mk l =>
  simp only at h
  cases h with | cons h1 t => cases t with | cons h2 t => cases t; exact ⟨_, _, rfl, h1, h2⟩
theorem VRs.one' {us : Array Value} {x : AV} (h : VRs φ w [x] us.toList) : ∃ u, us = #[u] ∧ VR φ w x u := by
  cases us with | mk l =>
  simp only at h
  cases h with | cons h1 t => cases t; exact ⟨_, rfl, h1⟩
theorem atomOf_spec {fn : Func} {k : Nat} (h : atomOf fn = some k) : fn.body.isNone = true ∧ Extern.findNext fn = none ∧ (fn.name == "runtime.NumGoroutine") = false ∧ ((k = 0 ∧ fn.name = "sync/atomic.AddInt64") ∨ (k = 1 ∧ fn.name = "sync/atomic.LoadInt64") ∨ (k = 2 ∧ fn.name = "sync/atomic.StoreInt64")) := by
  unfold atomOf at h
  split at h
  · rename_i hb
    refine ⟨hb.1, by simpa using hb.2.1, by simpa using hb.2.2, ?_⟩
    split at h
    · rename_i hn; cases h; exact .inl ⟨rfl, hn⟩
    · split at h
      · rename_i hn; cases h; exact .inr (.inl ⟨rfl, hn⟩)
      · split at h
        · rename_i hn; cases h; exact .inr (.inr ⟨rfl, hn⟩)
        · cases h
  · cases h
theorem find_add {fn : Func} (h : fn.name = "sync/atomic.AddInt64") : Extern.find fn = some (Extern.Atomic.update (Op.intArith .add) .i64 true) := by
  unfold Extern.find
  rw [h]
  rfl
theorem find_load {fn : Func} (h : fn.name = "sync/atomic.LoadInt64") : Extern.find fn = some (Extern.Atomic.loadT (.int .i64)) := by
  unfold Extern.find
  rw [h]
  rfl
theorem find_store {fn : Func} (h : fn.name = "sync/atomic.StoreInt64") : Extern.find fn = some Extern.Atomic.storeT := by
  unfold Extern.find
  rw [h]
  rfl
/-- what an atomic operation looks at -/
theorem atom_cell (hr : HR φ w H) {b off : Nat} {l : List AV} {e : TypeId} {ver : Nat} (hg : H.get b = some (.cells l e ver)) {n : Int} (hp : part false l off 1 = some (.int .i64 n)) {B o : Nat} (hb : φ b = some (B, o)) : w.cell? ⟨B, o + off, none⟩ = some (.int .i64 n) := by
  obtain ⟨B', o', e', m, h1, h2, h3, h4, _⟩ := hr.cells hg
  rw [hb] at h1
  cases h1
  obtain ⟨r, e1, e2, e3⟩ := part_spec hp
  rcases e3 with ⟨ha, _⟩ | ⟨_, rfl⟩
  · cases ha
  · have h5 : l[off]? = some (.int .i64 n) := by
      have : ((l.drop off).take 1)[0]? = some (.int .i64 n) := by rw [← e1]; rfl
      rw [List.getElem?_take_of_lt (by omega), List.getElem?_drop] at this
      simpa using this
    obtain ⟨u, hu, hv⟩ := h3.get h5
    cases hv
    exact hu
theorem upd_eq (x y : Value) : Extern.Atomic.update (Op.intArith .add) .i64 true #[x, y] = (do
    let a ← asAddr x
    let old ← Extern.Atomic.read (.int .i64) a
    let new ← Op.intArith .add .i64 (← asInt old) (← asInt y)
    store a new .atomic
    pure (if true then new else old)) := rfl
theorem load_eq (x : Value) : Extern.Atomic.loadT (.int .i64) #[x] = (do Extern.Atomic.read (.int .i64) (← asAddr x)) := rfl
theorem store_eq (x v : Value) : Extern.Atomic.storeT #[x, v] = (do
    store (← asAddr x) v .atomic
    pure (.tuple #[])) := rfl
theorem read_run {a : Addr} {n : Int} (h : w.cell? a = some (.int .i64 n)) : (Extern.Atomic.read (.int .i64) a).run P w = .ok (.int .i64 n) w := by
  have : Extern.Atomic.read (.int .i64) a = (do
    let v ← load a .atomic
    match (Extern.Atomic.T.int .i64 : Extern.Atomic.T), v with
    | .int k, .int k' _ => if k = k' then pure v else unsupported (.unsafePointer "atomic: a cell of another type")
    | .int .u64, .pointer (some _) => pure v
    | .ptr, .pointer _ => pure v
    | _, _ => unsupported (.unsafePointer "atomic: a cell of another type")) := rfl
  rw [this]
  simp only [load, Sem.run_bind, Sem.run, h, Result.andThen_ok]
  rfl
theorem atom_ok (hr : HR φ w H) {f : FuncId} {fn : Func} (hfn : P.funcs[f]? = some fn) (ha : atomOf fn = some 0) {x1 x2 : AV} {u1 u2 : Value} (v1 : VR φ w x1 u1) (v2 : VR φ w x2 u2) : OutOk P φ w H ((callFunc f #[u1, u2]).run P w) (atomV H 0 x1 x2) := by
  obtain ⟨a1, a2, a3, a4⟩ := atomOf_spec ha
  have hn : fn.name = "sync/atomic.AddInt64" := by
    rcases a4 with ⟨_, h⟩ | ⟨h, _⟩ | ⟨h, _⟩
    · exact h
    · cases h
    · cases h
  rw [run_callFunc_extern hfn a3 a1 a2 (find_add hn)]
  unfold atomV
  cases x1 <;> try trivial
  rename_i b off
  simp only
  split <;> try trivial
  rename_i l e ver hg
  split <;> try trivial
  rename_i n hp
  cases x2 <;> try trivial
  rename_i k d
  cases k <;> try trivial
  simp only
  split <;> try trivial
  rename_i h' hw
  cases v1 with
  | ptr hb =>
  rename_i B o
  cases v2
  have hc := atom_cell hr hg hp hb
  obtain ⟨q1, _, q3⟩ := hr_write hr hb hw (VRs.cons (.int .i64 (IntKind.i64.wrap (n + d))) .nil)
  have q4 := q3 0 (by simp)
  rw [Nat.add_zero] at q4
  refine ⟨φ, .value (.int .i64 (IntKind.i64.wrap (n + d))), _, ?_, .inl ⟨_, rfl, .int _ _⟩, q1, updH_write hb hw⟩
  rw [upd_eq]
  simp [asAddr, read_run hc, asInt, asIntOf, Op.intArith, World.setCells, run_store_int, stored, hc, q4]
theorem atom1_ok (hr : HR φ w H) {f : FuncId} {fn : Func} (hfn : P.funcs[f]? = some fn) (ha : atomOf fn = some 1) {x1 : AV} {u1 : Value} (v1 : VR φ w x1 u1) : OutOk P φ w H ((callFunc f #[u1]).run P w) (atomV H 1 x1 x1) := by
  obtain ⟨a1, a2, a3, a4⟩ := atomOf_spec ha
  have hn : fn.name = "sync/atomic.LoadInt64" := by
    rcases a4 with ⟨h, _⟩ | ⟨_, h⟩ | ⟨h, _⟩
    · cases h
    · exact h
    · cases h
  rw [run_callFunc_extern hfn a3 a1 a2 (find_load hn)]
  unfold atomV
  cases x1 <;> try trivial
  rename_i b off
  simp only
  split <;> try trivial
  rename_i l e ver hg
  split <;> try trivial
  rename_i n hp
  cases v1 with
  | ptr hb =>
  have hc := atom_cell hr hg hp hb
  refine ⟨φ, .value (.int .i64 n), w, ?_, .inl ⟨_, rfl, .int _ _⟩, hr, UpdH.refl _ _ _⟩
  rw [load_eq]
  simp [asAddr, read_run hc]
theorem atom2_ok (hr : HR φ w H) {f : FuncId} {fn : Func} (hfn : P.funcs[f]? = some fn) (ha : atomOf fn = some 2) {x1 x2 : AV} {u1 u2 : Value} (v1 : VR φ w x1 u1) (v2 : VR φ w x2 u2) : OutOk P φ w H ((callFunc f #[u1, u2]).run P w) (atomV H 2 x1 x2) := by
  obtain ⟨a1, a2, a3, a4⟩ := atomOf_spec ha
  have hn : fn.name = "sync/atomic.StoreInt64" := by
    rcases a4 with ⟨h, _⟩ | ⟨h, _⟩ | ⟨_, h⟩
    · cases h
    · cases h
    · exact h
  rw [run_callFunc_extern hfn a3 a1 a2 (find_store hn)]
  unfold atomV
  cases x1 <;> try trivial
  rename_i b off
  simp only
  split <;> try trivial
  rename_i l e ver hg
  split <;> try trivial
  rename_i n hp
  cases x2 <;> try trivial
  rename_i k d
  cases k <;> try trivial
  simp only
  split <;> try trivial
  rename_i h' hw
  cases v1 with
  | ptr hb =>
  rename_i B o
  cases v2
  have hc := atom_cell hr hg hp hb
  obtain ⟨q1, _, q3⟩ := hr_write hr hb hw (VRs.cons (.int .i64 d) .nil)
  have q4 := q3 0 (by simp)
  rw [Nat.add_zero] at q4
  refine ⟨φ, .value (.tuple #[]), _, ?_, .inl ⟨_, rfl, .tup (vs := #[]) .nil⟩, q1, updH_write hb hw⟩
  rw [store_eq]
  simp [asAddr, World.setCells, run_store_int, stored, hc, q4]
theorem ccall_ok {nt : Nat} {st : St} {a : Act} (hs : SR φ w nt st a) (hr : HR φ w st.h) {c : Call} {op : VOp} (hc : cCall P c = some op) (nm : Nat) (ty : TypeId) :
    OutOk P φ w st.h ((do let d ← resolve a.eval c ty; invoke d.target d.args : Sem Next).run P w) (vop st nm op) := by
  unfold cCall at hc
  split at hc
  · cases hc
  · rename_i args hargs
    have hv : VRs φ w (args.map (·.eval st)) (c.args.map a.eval).toList := by simpa using opds_ok hs hargs
    split at hc
    · rename_i f hf
      split at hc
      · rename_i fn hfn
        split at hc
        · rename_i hb
          cases hc
          refine ⟨fun _ he => ?_, fun hy => absurd hy (Nat.not_le.2 hb.2.2)⟩
          refine ⟨c.args.map a.eval, ?_, hv⟩
          simp [resolve, hf, Act.eval, Deferred.ofValue, invoke, run_callFunc he]
        · have hrun : (do let d ← resolve a.eval c ty; invoke d.target d.args : Sem Next).run P w = (callFunc f (c.args.map a.eval)).run P w := by
            simp [resolve, hf, Act.eval, Deferred.ofValue, invoke]
          rw [hrun]
          revert hv
          generalize c.args.map a.eval = us
          intro hv
          split at hc
          · rename_i x1 x2 ha
            cases hc
            obtain ⟨u1, u2, rfl, v1, v2⟩ := VRs.two' hv
            exact atom_ok hr hfn ha v1 v2
          · rename_i x1 ha
            cases hc
            obtain ⟨u1, rfl, v1⟩ := VRs.one' hv
            exact atom1_ok hr hfn ha v1
          · rename_i x1 x2 ha
            cases hc
            obtain ⟨u1, u2, rfl, v1, v2⟩ := VRs.two' hv
            exact atom2_ok hr hfn ha v1 v2
          · cases hc
      · cases hc
    · rename_i t hf
      cases hc
      have hx := hs.get t
      show OutOk P φ w st.h _ (match st.get t with | .fn f caps => Out.enter f (args.map (·.eval st) ++ caps) | .yld b => .enter (yf b) (args.map (·.eval st)) | _ => .fail)
      generalize hg : st.get t = x at hx
      cases x <;> try trivial
      case yld b =>
        generalize hu : a.tmps.getD t undef = u at hx
        cases hx with
        | yld hb =>
          refine ⟨fun hl => absurd (Nat.le_add_right YB b) (Nat.not_le.2 hl), fun _ => ⟨c.args.map a.eval, hv, fun B o rec h1 h2 h3 => ?_⟩⟩
          rw [show yf b - YB = b from Nat.add_sub_cancel_left _ _, hb] at h1
          obtain ⟨B0, eB⟩ : ∃ B0, B0 = B := ⟨_, rfl⟩
          have e0 := (Prod.mk.inj (Option.some.inj h1)).1.trans eB.symm
          subst e0
          subst eB
          have e2 := Go.run_yield (P := P) h2 h3
          refine Eq.trans ?_ e2
          · simp only [resolve, hf, show a.eval (.tmp t) = _ from hu, Deferred.ofValue, Sem.run_bind, Sem.run_pure, Result.andThen_ok, invoke]
            simp
      rename_i g l
      generalize hu : a.tmps.getD t undef = u at hx
      cases hx with
      | fn hlt hl =>
        rename_i vs
        refine ⟨fun _ he => ?_, fun hy => absurd hy (Nat.not_le.2 hlt)⟩
        refine ⟨c.args.map a.eval ++ vs, ?_, by simpa using hv.append hl⟩
        have : a.eval (.tmp t) = .func (.func g) #[] vs := hu
        simp [resolve, hf, this, Deferred.ofValue, invoke, run_callFunc he]
    · rename_i b hb
      obtain ⟨cons, hres⟩ : ∃ cons, (do let d ← resolve a.eval c ty; invoke d.target d.args : Sem Next).run P w = (builtin b c.argTypes ty cons (c.args.map a.eval)).run P w :=
        ⟨_, by simp only [resolve, hb, Sem.run_bind, Sem.run_pure, Result.andThen_ok, invoke]; rfl⟩
      rw [hres]
      clear hres
      generalize c.args.map a.eval = us at hv
      split at hc
      · -- len
        rename_i x
        obtain ⟨u, rfl, hx⟩ := one_arg hv
        split at hc
        · rename_i t ht0
          have key : ∀ k, ((k = 0 ∧ P.underlying t = some .string) ∨ (k = 1 ∧ ∃ e, P.underlying t = some (.slice e)) ∨ (k = 2 ∧ ∃ a b, P.underlying t = some (.map a b))) →
              OutOk P φ w st.h ((do pure (Next.value (← Builtin.len_ c.argTypes ty #[u])) : Sem Next).run P w) (lenO st.h k (x.eval st)) := by
            intro k hk
            cases h : lenO st.h k (x.eval st) with
            | fail => trivial
            | val v h' => exact op_len hr ht0 hx ty h hk
            | enter f args =>
              exfalso
              unfold lenO at h
              split at h <;> try (cases h; done)
              split at h <;> cases h
          split at hc <;> try (cases hc; done)
          · rename_i hu
            cases hc
            exact key 0 (.inl ⟨rfl, hu⟩)
          · rename_i e hu
            cases hc
            exact key 1 (.inr (.inl ⟨rfl, e, hu⟩))
          · rename_i k e hu
            cases hc
            exact key 2 (.inr (.inr ⟨rfl, k, e, hu⟩))
        · cases hc
      · -- append
        rename_i s x
        obtain ⟨u, u', rfl, hx, hy⟩ := two_args hv
        split at hc
        · rename_i t t2 ht0 ht1
          have hcz : c.argTypes.size = 2 → c.argTypes = #[t, t2] := by
            intro hz
            apply Array.ext (by simp [hz])
            intro i h1 h2
            match i, h1 with
            | 0, _ => simpa [Array.getElem?_eq_getElem (show 0 < c.argTypes.size by omega)] using ht0
            | 1, _ => simpa [Array.getElem?_eq_getElem (show 1 < c.argTypes.size by omega)] using ht1
            | n + 2, h => omega
          have key : ∀ e, P.underlying t = some (.slice e) → ((∃ e', P.underlying t2 = some (.slice e')) ∨ P.underlying t2 = some .string) → (has P e = true ∧ (0 < P.bytesOf e ∧ P.bytesOf e ≤ 1000000) ∧ (zeroC P e).isSome = true ∧ c.argTypes.size = 2) →
              OutOk P φ w st.h ((do pure (Next.value (← Builtin.append_ c.argTypes ty #[u, u'])) : Sem Next).run P w) (valH (appendV st.h (P.cellsOf e) (P.bytesOf e) e (s.eval st) (x.eval st))) := by
            intro e h1 h2 ⟨h3, h4, h5, h6⟩
            rw [hcz h6]
            obtain ⟨z, hz⟩ := Option.isSome_iff_exists.1 h5
            exact okH fun v h' h => op_append hr h1 h2 h3 h4 hz hx hy h ty
          split at hc
          · rename_i e e' h1 h2
            split at hc
            · rename_i hh
              cases hc
              exact key e h1 (.inl ⟨e', h2⟩) hh
            · cases hc
          · rename_i e h1 h2
            split at hc
            · rename_i hh
              cases hc
              exact key e h1 (.inr h2) hh
            · cases hc
          · cases hc
        · cases hc
      · -- copy
        rename_i d x
        obtain ⟨u, u', rfl, hx, hy⟩ := two_args hv
        split at hc
        · rename_i t ht0
          split at hc
          · rename_i e h1
            split at hc
            · rename_i hh
              cases hc
              exact okH fun v h' h => op_copy hr ht0 h1 hh hx hy h ty
            · cases hc
          · cases hc
        · cases hc
      · -- max
        cases hc
        cases args with
        | nil => trivial
        | cons x l =>
          obtain ⟨us⟩ := us
          cases hv with
          | cons h t =>
            refine okO fun v hm => ?_
            obtain ⟨r, h1, h2⟩ := max_ok P h t hm
            exact leaves_val hr (by simpa [Builtin.max_] using h1) h2
      · -- min
        cases hc
        cases args with
        | nil => trivial
        | cons x l =>
          obtain ⟨us⟩ := us
          cases hv with
          | cons h t =>
            refine okO fun v hm => ?_
            obtain ⟨r, h1, h2⟩ := min_ok P h t hm
            exact leaves_val hr (by simpa [Builtin.min_] using h1) h2
      · -- clear
        rename_i x
        obtain ⟨u, rfl, hx⟩ := one_arg hv
        split at hc
        · rename_i t ht0
          split at hc
          · rename_i k e h1
            cases hc
            show OutOk P φ w st.h ((do pure (Next.value (← Builtin.clear_ c.argTypes ty #[u])) : Sem Next).run P w) (match x.eval st with
              | .nilm => .val (.tup []) st.h
              | .map b => (match st.h.get b with | some (.map _ ver) => .val (.tup []) (st.h.put b (.map [] (ver + 1))) | _ => .fail)
              | _ => .fail)
            have hx' : VR φ w (x.eval st) u := hx
            revert hx'
            generalize x.eval st = y
            intro hx'
            cases y <;> try trivial
            · rename_i b
              simp only
              cases hg : st.h.get b with
              | none => trivial
              | some o =>
                cases o with
                | map es ver => exact op_clear hr ht0 h1 hx' hg ty
                | _ => trivial
            · exact op_clear_nil hr ht0 h1 hx' ty
          · rename_i e h1
            split at hc
            · rename_i z hz
              split at hc
              · rename_i hpos
                cases hc
                show OutOk P φ w st.h ((do pure (Next.value (← Builtin.clear_ c.argTypes ty #[u])) : Sem Next).run P w) (match x.eval st with
                  | .nils => .val (.tup []) st.h
                  | .sl b off len _ _ => bif Nat.beq len 0 then .val (.tup []) st.h else (match writeAt st.h b off (List.replicate len z).flatten with
                    | some h => .val (.tup []) h
                    | none => .fail)
                  | _ => .fail)
                have hx' : VR φ w (x.eval st) u := hx
                revert hx'
                generalize x.eval st = y
                intro hx'
                cases y <;> try trivial
                · rename_i b off len cap sz
                  simp only
                  by_cases h0 : len = 0
                  · subst h0
                    exact op_clear_sl0 hr ht0 h1 (.inr ⟨_, _, _, _, rfl⟩) hx' ty
                  · rw [T.beq_dec, decide_eq_false h0, cond_false]
                    cases hw : writeAt st.h b off (List.replicate len z).flatten with
                    | none => trivial
                    | some H' => exact op_clear_sl hr ht0 h1 hz hpos h0 hx' hw ty
                · exact op_clear_sl0 hr ht0 h1 (.inl rfl) hx' ty
              · cases hc
            · cases hc
          · cases hc
        · cases hc
      · -- delete
        rename_i m k
        obtain ⟨u, u', rfl, hx, hy⟩ := two_args hv
        split at hc
        · rename_i t ht0
          split at hc
          · rename_i kt e h1
            obtain ⟨kc, hk, rfl⟩ := Option.map_eq_some_iff.1 hc
            show OutOk P φ w st.h ((do pure (Next.value (← Builtin.delete_ c.argTypes ty #[u, u'])) : Sem Next).run P w) (match m.eval st with
              | .map b => (match st.h.get b with
                | some (.map es ver) => (match findE kc (k.eval st) es with | some _ => .val (.tup []) (st.h.put b (.map (delE kc (k.eval st) es) (ver + 1))) | none => .fail)
                | _ => .fail)
              | _ => .fail)
            have hx' : VR φ w (m.eval st) u := hx
            revert hx'
            generalize m.eval st = y
            intro hx'
            cases y <;> try trivial
            rename_i b
            simp only
            cases hg : st.h.get b with
            | none => trivial
            | some o =>
              cases o with
              | map es ver =>
                simp only
                cases hf : findE kc (k.eval st) es with
                | none => trivial
                | some r => exact op_delete hr ht0 h1 hk hx' hy hg hf ty
              | _ => trivial
          · cases hc
        · cases hc
      · cases hc
    · cases hc
end
end Go.Proofs.Ytlemediphmnffaa.VM
namespace Go.Proofs.Ytlemediphmnffaa.VM
open Go.RowKit
section
variable {P : Program} {φ : Env} {w : World} {H : Heap}
theorem okVal (hr : HR φ w H) {s : Sem Value} {x : Option AV} (h : ∀ v, x = some v → ∃ u, s.run P w = .ok u w ∧ VR φ w v u) : OutOk P φ w H ((do pure (Next.value (← s)) : Sem Next).run P w) (valO H x) :=
  okO fun v hv => let ⟨_, h1, h2⟩ := h v hv; leaves_val hr h1 h2
theorem text_ok (hr : HR φ w H) {src dst e : TypeId} (hs : P.underlying src = some (.slice e)) (hd : P.underlying dst = some .string) (he : P.underlying e = some (.int .u8)) {x : AV} {u : Value} (hx : VR φ w x u) (hns : ∀ s, x ≠ .str s) :
    OutOk P φ w H ((do pure (Next.value (← Go.convert src dst u)) : Sem Next).run P w) (match lenV x with
      | some n => match cellsOf H 1 n x with
        | some cs => valO H ((cs.mapM AV.byte).map .str)
        | none => .fail
      | none => .fail) := by
  cases hn : lenV x with
  | none => trivial
  | some n =>
    simp only
    cases hcs : cellsOf H 1 n x with
    | none => trivial
    | some cs =>
      refine okO fun v hv => ?_
      obtain ⟨bs, hbs, rfl⟩ := Option.map_eq_some_iff.1 hv
      exact op_text hr hs hd he hx hn hcs hbs hns
theorem guard_ok {op : BinOp} {x y v : AV} {u u' : Value} (t : TypeId) (xo yo : Operand) (hx : VR φ w x u) (hy : VR φ w y u') (h : bin op x y = some v) : (eqGuard op t xo yo u u').run P w = .ok () w := by
  cases hx <;> cases hy <;> simp only [bin] at h <;> try (cases h; done)
  · unfold eqGuard
    split <;> rfl
  · unfold eqGuard
    split <;> rfl
theorem mupd_ok {st : St} (hr : HR φ w st.h) {t kt e : TypeId} (ht : P.underlying t = some (.map kt e)) {c : EqC} (hc : keyC P kt = some c) {m k v : Opd} {mu ku vu : Value} (hm : VR φ w (m.eval st) mu) (hk : VR φ w (k.eval st) ku) (hv : VR φ w (v.eval st) vu) (nm : Nat) :
    OutOk P φ w st.h ((do Instr.mapUpdate t mu ku vu; pure Next.skip : Sem Next).run P w) (vop st nm (.mupd c m k v)) := by
  simp only [vop]
  revert hm
  generalize m.eval st = xv
  intro hm
  cases xv <;> try trivial
  rename_i b
  simp only
  cases hg : st.h.get b with
  | none => trivial
  | some o =>
    cases o <;> try trivial
    rename_i es ver
    simp only
    cases hf : findE c (k.eval st) es with
    | none => trivial
    | some r => exact op_mupd hr ht hc hm hk hv hg hf
theorem cop_ok {nt : Nat} {st : St} {a : Act} (hs : SR φ w nt st a) (hr : HR φ w st.h) {o : Oper} {op : VOp} (hc : cOp P o = some op) {nm : Nat} (hn : st.h.get nm = none) :
    OutOk P φ w st.h ((execOp a.eval o).run P w) (vop st nm op) := by
  obtain ⟨dst, oop, type, pos, after, guard⟩ := o
  unfold cOp at hc
  cases oop <;> simp only at hc <;> try (cases hc; done)
  case range t x =>
    split at hc
    · obtain ⟨y, hy, rfl⟩ := Option.map_eq_some_iff.1 hc
      trivial
    · cases hc
  case next x b =>
    cases b with
    | true => cases hc
    | false =>
      obtain ⟨y, hy, rfl⟩ := Option.map_eq_some_iff.1 hc
      trivial
  case entry x =>
    obtain ⟨y, hy, rfl⟩ := Option.map_eq_some_iff.1 hc
    trivial
  case move x =>
    obtain ⟨y, hy, rfl⟩ := Option.map_eq_some_iff.1 hc
    exact leaves_val (s := pure (a.eval x)) hr rfl (opd_ok hs hy)
  case assign x =>
    obtain ⟨y, hy, rfl⟩ := Option.map_eq_some_iff.1 hc
    exact leaves_val (s := pure (a.eval x)) hr rfl (opd_ok hs hy)
  case pick c x y =>
    split at hc
    · rename_i c' x' y' h1 h2 h3
      cases hc
      have g1 := opd_ok hs h1
      have g2 := opd_ok hs h2
      have g3 := opd_ok hs h3
      show OutOk P φ w st.h ((do pure (Next.value (if ← asBool (a.eval c) then a.eval x else a.eval y)) : Sem Next).run P w) (match c'.eval st with
        | .bool true => .val (x'.eval st) st.h
        | .bool false => .val (y'.eval st) st.h
        | _ => .fail)
      revert g1
      generalize c'.eval st = cv
      generalize a.eval c = cu
      intro g1
      cases g1 <;> try trivial
      rename_i b
      cases b
      · exact leaves_val (s := pure (a.eval y)) hr rfl g3
      · exact leaves_val (s := pure (a.eval x)) hr rfl g2
    · cases hc
  case alloc e =>
    obtain ⟨z, hz, rfl⟩ := Option.map_eq_some_iff.1 hc
    exact op_alloc hr hn hz
  case box e x =>
    obtain ⟨y, hy, rfl⟩ := Option.map_eq_some_iff.1 hc
    show OutOk P φ w st.h ((do pure (Next.value (← Instr.box e (a.eval x))) : Sem Next).run P w) (match (y.eval st).cells with
      | some c => .val (.ptr nm 0) (st.h.mk' nm (.cells c e 0))
      | none => .fail)
    cases hcs : (y.eval st).cells with
    | none => trivial
    | some c => exact op_box hr hn e (opd_ok hs hy) hcs
  case build t ps =>
    split at hc
    · rename_i z fs hz ht
      obtain ⟨q, hq, hc⟩ := Option.bind_eq_some_iff.1 hc
      split at hc
      · rename_i hall
        cases hc
        have hp := parts_ok hs hq
        refine okO fun v hv => ?_
        obtain ⟨l, hl, rfl⟩ := Option.map_eq_some_iff.1 hv
        exact op_build_struct hr ht hz hall (by simpa using hp) hl
      · cases hc
    · rename_i z n e hz ht
      split at hc
      · rename_i he
        obtain ⟨q, hq, rfl⟩ := Option.map_eq_some_iff.1 hc
        have hp := parts_ok hs hq
        refine okO fun v hv => ?_
        obtain ⟨l, hl, rfl⟩ := Option.map_eq_some_iff.1 hv
        exact op_build_arr hr ht he hz (by simpa using hp) hl
      · cases hc
    · cases hc
  case buildSlice t len ps =>
    split at hc
    · rename_i e ht
      split at hc
      · rename_i z hz
        split at hc
        · rename_i hcond
          obtain ⟨q, hq, rfl⟩ := Option.map_eq_some_iff.1 hc
          have hp := parts_ok hs hq
          show OutOk P φ w st.h ((do pure (Next.value (← Instr.buildSlice t len (ps.map fun (i, x) => (i, a.eval x)))) : Sem Next).run P w) (match fill ((List.replicate len z).flatten) (q.map fun (o, n, x) => (o, n, x.eval st)) with
            | some cs => .val (.sl nm 0 len len z.length) (st.h.mk' nm (.cells cs e 0))
            | none => .fail)
          cases hf : fill ((List.replicate len z).flatten) (q.map fun (o, n, x) => (o, n, x.eval st)) with
          | none => trivial
          | some cs => exact op_bslice hr hn ht hz hcond.1 hcond.2 (by simpa using hp) hf
        · cases hc
      · cases hc
    · cases hc
  case load t x =>
    split at hc
    · rename_i ht
      obtain ⟨y, hy, rfl⟩ := Option.map_eq_some_iff.1 hc
      have hx := opd_ok hs hy
      show OutOk P φ w st.h ((do pure (Next.value (← Instr.loadAt t (a.eval x))) : Sem Next).run P w) (vop st nm (.load (isAggB P t) (P.cellsOf t) y))
      simp only [vop]
      revert hx
      generalize y.eval st = yv
      intro hx
      cases yv <;> try trivial
      · rename_i b off
        simp only
        cases hg : st.h.get b with
        | none => trivial
        | some o =>
          cases o <;> try trivial
          exact okO fun v hv => op_load hr ht hx (by simp only [hg]; exact hv)
      · exact okO fun v hv => op_load hr ht hx hv
    · cases hc
  case store t p x =>
    split at hc
    · rename_i p' x' hp' hx'
      split at hc
      · rename_i ht
        cases hc
        have hp := opd_ok hs hp'
        have hx := opd_ok hs hx'
        show OutOk P φ w st.h ((do Instr.storeAt t (a.eval p) (a.eval x); pure Next.skip : Sem Next).run P w) (match p'.eval st with
          | .ptr b off => match (x'.eval st).cells with
            | some c => bif Nat.beq c.length (P.cellsOf t) then (match writeAt st.h b off c with
              | some h => .val .undef h
              | none => .fail) else .fail
            | none => .fail
          | _ => .fail)
        revert hp
        generalize p'.eval st = y
        intro hp
        cases y <;> try trivial
        rename_i b off
        simp only
        cases hcs : (x'.eval st).cells with
        | none => trivial
        | some c =>
          simp only
          rw [T.beq_dec]
          by_cases hl : c.length = P.cellsOf t
          · rw [decide_eq_true hl, cond_true]
            cases hw : writeAt st.h b off c with
            | none => trivial
            | some h => exact op_store hr ht hp hx hcs hl hw
          · rw [decide_eq_false hl]; trivial
      · cases hc
    · cases hc
  case nilCheck x =>
    obtain ⟨y, hy, rfl⟩ := Option.map_eq_some_iff.1 hc
    have hx := opd_ok hs hy
    show OutOk P φ w st.h ((execOp a.eval ⟨dst, .nilCheck x, type, pos, after, guard⟩).run P w) (match y.eval st with
      | .nilp | .nilf | .undef => .fail
      | v => .val v st.h)
    have key : ∀ u v, a.eval x = u → VR φ w v u → (∀ n f c, u ≠ .func (.method n) f c) → u ≠ .pointer none → u ≠ .nilIface → u ≠ .nilFunc → OutOk P φ w st.h ((execOp a.eval ⟨dst, .nilCheck x, type, pos, after, guard⟩).run P w) (.val v st.h) := by
      intro u v hu hv h1 h2 h3 h4
      have : execOp a.eval ⟨dst, .nilCheck x, type, pos, after, guard⟩ = pure (.value u) := by
        simp only [execOp, hu]
      rw [this]
      exact leaves_val (s := pure u) hr rfl hv
    revert hx
    generalize y.eval st = v
    generalize hu : a.eval x = u
    intro hx
    cases hx <;> first
      | trivial
      | exact key _ _ hu (by constructor <;> assumption) (by simp) (by simp) (by simp) (by simp)
  case binOp bop t x y pr =>
    split at hc
    · rename_i x' y' hx' hy'
      have hx := opd_ok hs hx'
      have hy := opd_ok hs hy'
      have hb : OutOk P φ w st.h ((execOp a.eval ⟨dst, .binOp bop t x y pr, type, pos, after, guard⟩).run P w) (vop st nm (.bin bop x' y')) := by
        refine okVal (s := do eqGuard bop t x y (a.eval x) (a.eval y); Go.binOp bop t (a.eval x) (a.eval y)) hr fun v hv => ?_
        obtain ⟨r, h1, h2⟩ := bin_ok t hx hy hv
        exact ⟨r, by rw [Sem.run_bind, guard_ok t x y hx hy hv, Result.andThen_ok, h1]; rfl, h2⟩
      have he : ∀ (k : EqK) (hop : bop = .eql ∨ bop = .neq), ((k = .bool ∧ P.underlying t = some .bool) ∨ (k = .ptr ∧ ∃ e, P.underlying t = some (.pointer e)) ∨ (k = .sl ∧ ∃ e, P.underlying t = some (.slice e)) ∨ (k = .map ∧ ∃ a b, P.underlying t = some (.map a b)) ∨
      (k = .fn ∧ ∃ a b c, P.underlying t = some (.func a b c)) ∨ (∃ ks fs, k = .flat ks ∧ P.underlying t = some (.struct fs) ∧ eqFlat P 5 t = some ks ∧ P.eqGuardType P.depth t = false)) → OutOk P φ w st.h ((execOp a.eval ⟨dst, .binOp bop t x y pr, type, pos, after, guard⟩).run P w) (vop st nm (.eqs k (bop = .neq) x' y')) := by
        intro k hop hk
        refine okVal (s := do eqGuard bop t x y (a.eval x) (a.eval y); Go.binOp bop t (a.eval x) (a.eval y)) hr fun v hv => ?_
        obtain ⟨b, hb, rfl⟩ := Option.map_eq_some_iff.1 hv
        exact ⟨_, eqv_ok hop x y hx hy hb hk, .bool _⟩
      split at hc
      · rename_i hop
        split at hc <;> try (cases hc; done)
        · rename_i k0 ht
          cases hc
          exact hb
        · rename_i ht
          cases hc
          exact hb
        · rename_i ht
          cases hc
          exact he .bool hop (.inl ⟨rfl, ht⟩)
        · rename_i e ht
          cases hc
          exact he .ptr hop (.inr (.inl ⟨rfl, e, ht⟩))
        · rename_i e ht
          cases hc
          exact he .sl hop (.inr (.inr (.inl ⟨rfl, e, ht⟩)))
        · rename_i k e ht
          cases hc
          exact he .map hop (.inr (.inr (.inr (.inl ⟨rfl, k, e, ht⟩))))
        · rename_i e1 e2 e3 ht
          cases hc
          exact he .fn hop (.inr (.inr (.inr (.inr (.inl ⟨rfl, e1, e2, e3, ht⟩)))))
        · rename_i fs ht
          split at hc
          · rename_i ks hks
            split at hc
            · rename_i hgt
              cases hc
              exact he (.flat ks) hop (.inr (.inr (.inr (.inr (.inr ⟨ks, fs, rfl, ht, hks, hgt⟩)))))
            · cases hc
          · cases hc
      · rename_i hop
        split at hc <;> try (cases hc; done)
        · cases hc
          exact hb
        · cases hc
          exact hb
    · cases hc
  case unOp uop t x =>
    obtain ⟨y, hy, rfl⟩ := Option.map_eq_some_iff.1 hc
    refine okVal (s := Op.unary uop (a.eval x)) hr fun v hv => ?_
    obtain ⟨r, h1, h2⟩ := un_ok (opd_ok hs hy) hv
    exact ⟨r, by rw [h1]; rfl, h2⟩
  case convert src dst' x =>
    split at hc
    · rename_i k0 k x' hu1 hu2 hx'
      cases hc
      have hx := opd_ok hs hx'
      show OutOk P φ w st.h ((do pure (Next.value (← Go.convert src dst' (a.eval x))) : Sem Next).run P w) (vop st nm (.conv (.int k) x'))
      simp only [vop]
      revert hx
      generalize x'.eval st = xv
      generalize a.eval x = xu
      intro hx
      cases hx <;> try trivial
      rename_i k' n
      exact leaves_val hr (by simp [Go.convert, Conv.intToInt, run_underlying hu1, run_underlying hu2]) (.int k _)
    · rename_i x' hu1 hu2 hx'
      cases hc
      have hx := opd_ok hs hx'
      show OutOk P φ w st.h ((do pure (Next.value (← Go.convert src dst' (a.eval x))) : Sem Next).run P w) (vop st nm (.conv .same x'))
      simp only [vop]
      revert hx
      generalize x'.eval st = xv
      generalize a.eval x = xu
      intro hx
      cases hx <;> try trivial
      exact leaves_val hr (by simp [Go.convert, run_underlying hu1, run_underlying hu2]) (.str _)
    · rename_i e x' hu1 hu2 hx'
      split at hc
      · rename_i hu3
        cases hc
        have hx := opd_ok hs hx'
        show OutOk P φ w st.h ((do pure (Next.value (← Go.convert src dst' (a.eval x))) : Sem Next).run P w) (vop st nm (.conv .text x'))
        simp only [vop]
        revert hx
        generalize x'.eval st = xv
        intro hx
        cases xv <;> first
          | trivial
          | exact text_ok hr hu1 hu2 hu3 hx (by simp)
      · cases hc
    · rename_i e0 e x' hu1 hu2 hx'
      split at hc
      · rename_i hu3
        split at hc
        · rename_i hsd
          cases hc
          have hx := opd_ok hs hx'
          simp only [vop]
          generalize x'.eval st = xv
          cases xv <;> trivial
        · cases hc
      · cases hc
    · cases hc
  case makeFunc fn first caps =>
    cases fn <;> simp only at hc <;> try (cases hc; done)
    rename_i f
    split at hc
    · rename_i hf
      obtain ⟨rfl, hf⟩ := hf
      obtain ⟨q, hq, rfl⟩ := Option.map_eq_some_iff.1 hc
      refine leaves_val (s := Instr.makeFunc (.func f) (#[].map a.eval) (caps.map a.eval)) (u := .func (.func f) #[] (caps.map a.eval)) hr (by simp [Instr.makeFunc]) ?_
      exact .fn (vs := caps.map a.eval) hf (by simpa using opds_ok hs hq)
    · cases hc
  case makeMap t r =>
    cases r <;> simp only at hc <;> cases hc
    exact op_mkmap hr hn t
  case makeSlice t l c =>
    split at hc
    · rename_i e ht
      split at hc
      · rename_i z l' c' hz hl' hc'
        split at hc
        · rename_i hpos
          cases hc
          have hl := opd_ok hs hl'
          have hcc := opd_ok hs hc'
          show OutOk P φ w st.h ((do pure (Next.value (← Instr.makeSlice t (a.eval l) (a.eval c))) : Sem Next).run P w) (vop st nm (.mkslice z e (P.bytesOf e) l' c'))
          simp only [vop]
          revert hl hcc
          generalize l'.eval st = lv
          generalize c'.eval st = cv
          intro hl hcc
          split
          · rename_i n m
            split
            · rename_i hcond
              exact op_mkslice hr hn ht hz hpos hl hcc hcond
            · trivial
          · trivial
        · cases hc
      · cases hc
    · cases hc
  case slice t x lo hi mx =>
    split at hc
    · rename_i x' lo' hi' mx' h1 h2 h3 h4
      have hx := opd_ok hs h1
      have g1 := opto_ok hs h2
      have g2 := opto_ok hs h3
      have g3 := opto_ok hs h4
      split at hc <;> try (cases hc; done)
      · rename_i n e ht
        split at hc
        · rename_i he
          cases hc
          exact okO fun v hv => op_slice_arr hr ht he.1 he.2 hx g1 g2 g3 hv
        · cases hc
      · rename_i e ht
        split at hc
        · rename_i he
          cases hc
          exact okO fun v hv => op_slice_slice hr ht he hx g1 g2 g3 hv
        · cases hc
      · rename_i ht
        split at hc
        · rename_i hm
          cases hc
          cases mx' with
          | some _ => cases hm
          | none =>
            cases mx with
            | some _ => exact g3.elim
            | none => exact okO fun v hv => op_sliceS hr ht hx g1 g2 hv
        · cases hc
    · cases hc
  case fieldAddr s x i =>
    split at hc
    · rename_i fs x' ht hx'
      split at hc
      · rename_i f hf
        split at hc
        · rename_i hcond
          cases hc
          have hx := opd_ok hs hx'
          show OutOk P φ w st.h ((do pure (Next.value (← Instr.fieldAt s (a.eval x) i)) : Sem Next).run P w) (vop st nm (.faddr f.offset x'))
          simp only [vop]
          revert hx
          generalize x'.eval st = xv
          intro hx
          cases xv <;> try trivial
          · exact (okO (x := some _) fun v hv => op_faddr hr ht hf hcond.1 hcond.2 hx hv : OutOk P φ w st.h _ (valO st.h (some _)))
          · exact (okO (x := some _) fun v hv => op_faddr hr ht hf hcond.1 hcond.2 hx hv : OutOk P φ w st.h _ (valO st.h (some _)))
        · cases hc
      · cases hc
    · cases hc
  case field s x i =>
    split at hc
    · rename_i fs x' ht hx'
      split at hc
      · rename_i f hf
        split at hc
        · rename_i hcond
          cases hc
          have hx := opd_ok hs hx'
          show OutOk P φ w st.h ((do pure (Next.value (← Instr.field s (a.eval x) i)) : Sem Next).run P w) (match x'.eval st with
            | .agg l => valO st.h (part (isAggB P f.type) l f.offset (P.cellsOf f.type))
            | _ => .fail)
          revert hx
          generalize x'.eval st = xv
          intro hx
          cases xv <;> try trivial
          exact okO fun v hv => op_field hr ht hf hcond hx hv
        · cases hc
      · cases hc
    · cases hc
  case indexAddr t x i =>
    split at hc
    · rename_i n e x' i' ht hx' hi'
      split at hc
      · rename_i he
        cases hc
        have hx := opd_ok hs hx'
        have hi := opd_ok hs hi'
        show OutOk P φ w st.h ((do pure (Next.value (← Instr.indexAt t (a.eval x) (a.eval i))) : Sem Next).run P w) (vop st nm (.iaddr (P.cellsOf e) (some n) x' i'))
        simp only [vop]
        revert hi
        generalize i'.eval st = iv
        intro hi
        cases iv <;> try trivial
        rename_i k j
        simp only
        revert hx
        generalize x'.eval st = xv
        intro hx
        cases xv <;> try trivial
        simp only
        split
        · rename_i hcond
          exact op_iaddr_arr hr ht he hx hi (by simp only; rw [if_pos hcond])
        · trivial
      · cases hc
    · rename_i e x' i' ht hx' hi'
      split at hc
      · rename_i he
        cases hc
        have hx := opd_ok hs hx'
        have hi := opd_ok hs hi'
        show OutOk P φ w st.h ((do pure (Next.value (← Instr.indexAt t (a.eval x) (a.eval i))) : Sem Next).run P w) (vop st nm (.iaddr (P.cellsOf e) none x' i'))
        simp only [vop]
        revert hi
        generalize i'.eval st = iv
        intro hi
        cases iv <;> try trivial
        rename_i k j
        simp only
        revert hx
        generalize x'.eval st = xv
        intro hx
        cases xv <;> try trivial
        · simp only
          split
          · rename_i hcond
            exact op_iaddr_slice hr ht he hx hi (by simp only; rw [if_pos hcond])
          · trivial
        · simp only
          split
          · rename_i hcond
            exact op_iaddr_slice hr ht he hx hi (by simp only; rw [if_pos hcond])
          · trivial
      · cases hc
    · cases hc
  case index t x i =>
    split at hc
    · rename_i n e x' i' ht hx' hi'
      split at hc
      · rename_i he
        cases hc
        have hx := opd_ok hs hx'
        have hi := opd_ok hs hi'
        show OutOk P φ w st.h ((do pure (Next.value (← Instr.index t (a.eval x) (a.eval i))) : Sem Next).run P w) (vop st nm (.index (isAggB P e) (P.cellsOf e) n x' i'))
        simp only [vop]
        revert hi
        generalize i'.eval st = iv
        intro hi
        cases iv <;> try trivial
        rename_i k j
        simp only
        revert hx
        generalize x'.eval st = xv
        intro hx
        cases xv <;> try trivial
        simp only
        split
        · rename_i hcond
          exact okO fun v hv => op_index_arr hr ht he hx hi hcond hv
        · trivial
      · cases hc
    · rename_i x' i' ht hx' hi'
      cases hc
      have hx := opd_ok hs hx'
      have hi := opd_ok hs hi'
      show OutOk P φ w st.h ((do pure (Next.value (← Instr.index t (a.eval x) (a.eval i))) : Sem Next).run P w) (vop st nm (.indexS x' i'))
      simp only [vop]
      revert hi
      generalize i'.eval st = iv
      intro hi
      cases iv <;> try trivial
      rename_i k j
      simp only
      revert hx
      generalize x'.eval st = xv
      intro hx
      cases xv <;> try trivial
      simp only
      split
      · rename_i hcond
        exact okO fun v hv => op_index_str hr ht hx hi hcond hv
      · trivial
    · cases hc
  case lookup t x i ok =>
    split at hc
    · rename_i kt e x' i' ht hx' hi'
      split at hc
      · rename_i c z hk hz
        obtain ⟨zv, hzv, rfl⟩ := Option.map_eq_some_iff.1 hc
        have hx := opd_ok hs hx'
        have hi := opd_ok hs hi'
        show OutOk P φ w st.h ((do pure (Next.value (← Instr.lookup t (a.eval x) (a.eval i) ok)) : Sem Next).run P w) (vop st nm (.lookup c zv ok x' i'))
        simp only [vop]
        revert hx
        generalize x'.eval st = xv
        intro hx
        cases xv <;> try trivial
        · rename_i b
          simp only
          cases hg : st.h.get b with
          | none => trivial
          | some o =>
            cases o <;> try trivial
            rename_i es ver
            simp only
            cases hf : findE c (i'.eval st) es with
            | none => trivial
            | some r => exact op_lookup hr ht hk hz hzv hx hi (by simp only [hg]; exact hf) ok
        · exact op_lookup hr ht hk hz hzv hx hi (r := none) rfl ok
      · cases hc
    · cases hc
  case extract x i =>
    obtain ⟨y, hy, rfl⟩ := Option.map_eq_some_iff.1 hc
    have hx := opd_ok hs hy
    show OutOk P φ w st.h ((do pure (Next.value (← Instr.extract (a.eval x) i)) : Sem Next).run P w) (match y.eval st with
      | .tup l => valO st.h l[i]?
      | _ => .fail)
    revert hx
    generalize y.eval st = xv
    intro hx
    cases xv <;> try trivial
    exact okO fun v hv => op_extract hr hx hv
  case call c => exact ccall_ok hs hr hc nm type
  case mapUpdate t m k v =>
    split at hc
    · rename_i kt e m' k' v' ht hm' hk' hv'
      obtain ⟨c, hkc, rfl⟩ := Option.map_eq_some_iff.1 hc
      exact mupd_ok hr ht hkc (opd_ok hs hm') (opd_ok hs hk') (opd_ok hs hv') nm
    · cases hc
  case insert t m k v =>
    split at hc
    · rename_i kt e m' k' v' ht hm' hk' hv'
      obtain ⟨c, hkc, rfl⟩ := Option.map_eq_some_iff.1 hc
      exact mupd_ok hr ht hkc (opd_ok hs hm') (opd_ok hs hk') (opd_ok hs hv') nm
    · cases hc
end
end Go.Proofs.Ytlemediphmnffaa.VM
