/- A small machine over the program's text: values, memory, operations, code. No claim stands here: definitions alone. -/
import GoSem.Claim
namespace Go.Proofs.Ytinonmcnofjeeaa.VM
set_option linter.unusedSimpArgs false
set_option linter.unusedVariables false
set_option linter.defProp false
set_option maxHeartbeats 1000000

/-- A value: addresses name the machine's own blocks. 'rs', 'rp': a slice, a pointer over memory that nobody writes, its cells told. -/
inductive AV where
  | undef
  | bool (b : Bool)
  | int (k : IntKind) (n : Int)
  | str (s : List Nat)
  | ptr (b off : Nat)
  | nilp
  | sl (b off len cap sz : Nat)
  | nils
  | map (b : Nat)
  | nilm
  | fn (f : Nat) (caps : List AV)
  | nilf
  | agg (l : List AV)
  | tup (l : List AV)
  | rs (l : List AV) (len : Nat)
  | rp (l : List AV)

/-- A tree of numbered places. -/
inductive T (α : Type) where
  | e
  | n (l : T α) (x : Option α) (r : T α)
namespace T
variable {α : Type}
def get : T α → Nat → Option α
  | .e, _ => none
  | .n l x r, i => bif Nat.beq i 0 then x else bif Nat.beq (i % 2) 1 then l.get (i / 2) else r.get (i / 2 - 1)
def setF (v : α) : Nat → Nat → T α → T α
  | 0, _, t => t
  | f + 1, i, .e => bif Nat.beq i 0 then .n .e (some v) .e else bif Nat.beq (i % 2) 1 then .n (setF v f (i / 2) .e) none .e else .n .e none (setF v f (i / 2 - 1) .e)
  | f + 1, i, .n l x r => bif Nat.beq i 0 then .n l (some v) r else bif Nat.beq (i % 2) 1 then .n (setF v f (i / 2) l) x r else .n l x (setF v f (i / 2 - 1) r)
def set (t : T α) (i : Nat) (v : α) : T α := setF v (i + 1) i t
end T

inductive Blk where
  | cells (l : List AV) (e : TypeId) (ver : Nat)
  | map (es : List (AV × AV)) (ver : Nat)
  | dead

structure Heap where
  next : Nat
  t : T Blk

def Heap.get (h : Heap) (b : Nat) : Option Blk := h.t.get b
def Heap.put (h : Heap) (b : Nat) (o : Blk) : Heap := ⟨h.next, h.t.set b o⟩
/-- a new block, under this name -/
def Heap.mk' (h : Heap) (b : Nat) (o : Blk) : Heap := ⟨max h.next (b + 1), h.t.set b o⟩

/-- An operand, resolved. -/
inductive Opd where
  | t (t : Nat)
  | c (v : AV)

inductive EqC where
  | int | bool | str
inductive BI where
  | len (k : Nat) | append (size bytes : Nat) (e : TypeId) | copy (size : Nat) | max | min | clear | clearS (zero : List AV) | delete (c : EqC) | panic

/-- What a conversion does. -/
inductive Cv where
  | int (k : IntKind)
  | same
  | bytes (e : TypeId)
  | text
  | mark

/-- what kind of values are held against each other -/
inductive EqK where
  | bool | ptr | sl | map | fn | flat (l : List EqC)

inductive VOp where
  | bad
  | mov (x : Opd)
  | pick (c a b : Opd)
  | alloc (zero : List AV) (e : TypeId)
  | box (e : TypeId) (x : Opd)
  | build (zero : List AV) (parts : List (Nat × Nat × Opd))
  | bslice (zero : List AV) (e : TypeId) (len : Nat) (parts : List (Nat × Nat × Opd))
  | load (agg : Bool) (n : Nat) (a : Opd)
  | store (n : Nat) (a x : Opd)
  | nilck (x : Opd)
  | bin (op : BinOp) (x y : Opd)
  | eqs (k : EqK) (neg : Bool) (x y : Opd)
  | un (op : UnOp) (x : Opd)
  | conv (c : Cv) (x : Opd)
  | mkfn (f : Nat) (caps : List Opd)
  | mkmap
  | mkslice (zero : List AV) (e : TypeId) (bytes : Nat) (len cap : Opd)
  | slice (size : Nat) (x : Opd) (lo hi mx : Option Opd)
  | sliceA (size n : Nat) (x : Opd) (lo hi mx : Option Opd)
  | sliceS (x : Opd) (lo hi : Option Opd)
  | faddr (off : Nat) (x : Opd)
  | field (agg : Bool) (off n : Nat) (x : Opd)
  | iaddr (size : Nat) (arr : Option Nat) (x i : Opd)
  | index (agg : Bool) (size len : Nat) (x i : Opd)
  | indexS (x i : Opd)
  | lookup (c : EqC) (zero : AV) (ok : Bool) (x i : Opd)
  | mupd (c : EqC) (m k v : Opd)
  | extract (x : Opd) (i : Nat)
  | call (f : Nat) (args : List Opd)
  | callv (x : Opd) (args : List Opd)
  | bi (b : BI) (args : List Opd)

/-- An operation in its place: where it writes; the slot that decides whether it is carried out, and at which answer. -/
structure VO where
  dst : Option Nat
  guard : Option (Nat × Bool)
  op : VOp

inductive VCode where
  | bad
  | skip
  | ops (l : List VO)
  | drawn (l : List VO) (loose : List (Nat × List Nat))
  | mixed (l : List VO) (loose : List (Nat × List Nat))
  | seq (a b : VCode)
  | cond (c : Opd) (a b : VCode)
  | block (id : Nat) (b : VCode)
  | loop (b : VCode)
  | exit (id : Nat)
  | ret

inductive VRes where
  | tmp (t : Nat)
  | cell (a : Nat) (agg : Bool) (n : Nat)

structure VFun where
  nargs : Nat
  res : List VRes
  body : VCode

inductive Ex where
  | normal
  | exit (id : Nat)
  | ret

structure St where
  s : T AV
  h : Heap

def St.get (st : St) (t : Nat) : AV := (st.s.get t).getD .undef
def St.put (st : St) (d : Option Nat) (v : AV) : St := match d with
  | some d => ⟨st.s.set d v, st.h⟩
  | none => st
def Opd.eval (st : St) : Opd → AV
  | .t n => st.get n
  | .c v => v

/-! ### plain helpers -/
def lset (v : AV) : List AV → Nat → List AV
  | [], _ => []
  | _ :: l, 0 => v :: l
  | x :: l, n + 1 => x :: lset v l n
def lsets (vs : List AV) (l : List AV) (i : Nat) : List AV := l.take i ++ vs ++ l.drop (i + vs.length)
/-- n of them from place i on, if they are there -/
def cut (l : List AV) (i n : Nat) : Option (List AV) := let r := (l.drop i).take n; bif Nat.beq r.length n then some r else none
def AV.cells : AV → Option (List AV)
  | .undef => none
  | .agg l => some l
  | v => some [v]
def AV.byte : AV → Option Nat
  | .int .u8 c => if 0 ≤ c ∧ c < 256 then some c.toNat else none
  | _ => none
/-- one cell's value -/
def AV.one : AV → Bool
  | .agg _ | .tup _ | .undef => false
  | _ => true
def part (agg : Bool) (l : List AV) (off n : Nat) : Option AV :=
  match cut l off n with
  | none => none
  | some r => if agg then some (.agg r) else match r with
    | [v] => some v
    | _ => none
def fill (cells : List AV) : List (Nat × Nat × AV) → Option (List AV)
  | [] => some cells
  | (off, n, v) :: rest => match v.cells with
    | some c => bif Nat.beq c.length n && Nat.ble (off + n) cells.length then fill (lsets c cells off) rest else none
    | none => none
def sameCell : AV → AV → Option Bool
  | .int k a, .int k' b => if k = k' then some (decide (a = b)) else none
  | .bool a, .bool b => some (a == b)
  | .str a, .str b => some (a == b)
  | _, _ => none
def sameK : EqC → AV → AV → Option Bool
  | .int, .int k a, .int k' b => if k = k' then some (decide (a = b)) else none
  | .bool, .bool a, .bool b => some (a == b)
  | .str, .str a, .str b => some (a == b)
  | _, _, _ => none
def sameCells : List EqC → List AV → List AV → Option Bool
  | [], [], [] => some true
  | c :: cs, a :: x, b :: y => match sameK c a b with
    | some true => sameCells cs x y
    | r => r
  | _, _, _ => none
def strLess : List Nat → List Nat → Bool
  | _, [] => false
  | [], _ :: _ => true
  | a :: x, b :: y => Nat.blt a b || (Nat.beq a b && strLess x y)
def bitsOf (op : BinOp) (k : IntKind) (x y : Int) : Int :=
  let a := (x % 2 ^ k.bits).toNat
  let b := (y % 2 ^ k.bits).toNat
  k.wrap (match op with
    | .and => Nat.land a b
    | .or => Nat.lor a b
    | .xor => Nat.xor a b
    | _ => Nat.land a (2 ^ k.bits - 1 - b) : Nat)
def binInt (op : BinOp) (k : IntKind) (x y : Int) : Option AV :=
  match op with
  | .add => some (.int k (k.wrap (x + y)))
  | .sub => some (.int k (k.wrap (x - y)))
  | .mul => some (.int k (k.wrap (x * y)))
  | .quo => if y = 0 then none else some (.int k (k.wrap (x.tdiv y)))
  | .rem => if y = 0 then none else some (.int k (x.tmod y))
  | .and | .or | .xor | .andNot => some (.int k (bitsOf op k x y))
  | .eql => some (.bool (decide (x = y)))
  | .neq => some (.bool (!decide (x = y)))
  | .lss => some (.bool (decide (x < y)))
  | .leq => some (.bool (decide (x ≤ y)))
  | .gtr => some (.bool (decide (y < x)))
  | .geq => some (.bool (decide (y ≤ x)))
  | _ => none
def binStr (op : BinOp) (x y : List Nat) : Option AV :=
  match op with
  | .add => if x.length + y.length < 140737488355328 then some (.str (x ++ y)) else none
  | .eql => some (.bool (x == y))
  | .neq => some (.bool !(x == y))
  | .lss => some (.bool (strLess x y))
  | .leq => some (.bool (strLess x y || x == y))
  | .gtr => some (.bool !(strLess x y || x == y))
  | .geq => some (.bool !(strLess x y))
  | _ => none
def bin (op : BinOp) : AV → AV → Option AV
  | .int k a, .int k' b => match op with
    | .shl => if b < 0 then none else some (.int k (k.wrap (a * 2 ^ min b.toNat k.bits)))
    | .shr => if b < 0 then none else some (.int k (a.fdiv (2 ^ min b.toNat k.bits)))
    | op => if k = k' then binInt op k a b else none
  | .str a, .str b => binStr op a b
  | _, _ => none
/-- Are they the same? Of values that Go compares without memory. -/
def eqv : EqK → AV → AV → Option Bool
  | .bool, .bool a, .bool b => some (a == b)
  | .flat l, .agg a, .agg b => if a.length = l.length ∧ b.length = l.length then sameCells l a b else none
  | .ptr, .nilp, .nilp => some true
  | .ptr, .nilp, .ptr .. | .ptr, .ptr .., .nilp | .ptr, .nilp, .rp _ | .ptr, .rp _, .nilp => some false
  | .sl, .nils, .nils => some true
  | .sl, .nils, .sl .. | .sl, .sl .., .nils | .sl, .nils, .rs .. | .sl, .rs .., .nils => some false
  | .map, .nilm, .nilm => some true
  | .map, .nilm, .map _ | .map, .map _, .nilm => some false
  | .fn, .nilf, .nilf => some true
  | .fn, .nilf, .fn .. | .fn, .fn .., .nilf => some false
  | _, _, _ => none
def un (op : UnOp) : AV → Option AV
  | .int k n => match op with
    | .neg => some (.int k (k.wrap (0 - n)))
    | .xor => some (.int k (bitsOf .xor k (if k.signed then -1 else k.max) n))
    | _ => none
  | .bool b => match op with
    | .not => some (.bool !b)
    | _ => none
  | _ => none
def natOf (x : AV) (y : Nat) : Option Nat := match x with
  | .int _ i => if 0 ≤ i ∧ i ≤ y then some i.toNat else none
  | _ => none
def bounds (len cap : Nat) (lo hi mx : Option AV) : Option (Nat × Nat × Nat) :=
  match (match mx with | some v => natOf v cap | none => some cap) with
  | none => none
  | some m =>
    match (match hi with | some v => natOf v m | none => if mx.isSome then none else some len) with
    | none => none
    | some h =>
      match (match lo with | some v => natOf v h | none => some 0) with
      | none => none
      | some l => some (l, h, m)
def sliceV (size : Nat) (x : AV) (lo hi mx : Option AV) : Option AV :=
  match x with
  | .sl b off len cap sz => bif Nat.beq sz size then (match bounds len cap lo hi mx with
    | some (l, h, m) => some (.sl b (off + l * size) (h - l) (m - l) sz)
    | none => none) else none
  | .nils => match bounds 0 0 lo hi mx with
    | some _ => some .nils
    | none => none
  | .rs c len => match (if mx.isSome then none else bounds len len lo hi none) with
    | some (l, h, _) => some (.rs ((c.drop (l * size)).take ((h - l) * size)) (h - l))
    | none => none
  | _ => none
def sliceA (h : Heap) (size n : Nat) (x : AV) (lo hi mx : Option AV) : Option AV :=
  match x with
  | .ptr b off => match h.get b with
    | some (.cells l _ _) => if off + n * size ≤ l.length then (match bounds n n lo hi mx with
      | some (l, h, m) => some (.sl b (off + l * size) (h - l) (m - l) size)
      | none => none) else none
    | _ => none
  | _ => none
def sliceS (x : AV) (lo hi : Option AV) : Option AV :=
  match x with
  | .str s => match bounds s.length s.length lo hi none with
    | some (l, h, _) => some (.str ((s.drop l).take (h - l)))
    | none => none
  | _ => none
def findE (c : EqC) (k : AV) : List (AV × AV) → Option (Option AV)
  | [] => some none
  | e :: es => match sameK c k e.1 with
    | some true => some (some e.2)
    | some false => findE c k es
    | none => none
def updE (c : EqC) (k v : AV) : List (AV × AV) → List (AV × AV)
  | [] => [(k, v)]
  | e :: es => match sameK c k e.1 with
    | some true => (k, v) :: es
    | _ => e :: updE c k v es
def delE (c : EqC) (k : AV) : List (AV × AV) → List (AV × AV)
  | [] => []
  | e :: es => match sameK c k e.1 with
    | some true => es
    | _ => e :: delE c k es
def max2 : AV → AV → Option AV
  | .int k x, .int _ y => some (.int k (if y > x then y else x))
  | _, _ => none
def min2 : AV → AV → Option AV
  | .int k x, .int _ y => some (.int k (if y < x then y else x))
  | _, _ => none
def foldO (f : AV → AV → Option AV) : AV → List AV → Option AV
  | x, [] => some x
  | x, y :: l => match f x y with
    | some z => foldO f z l
    | none => none

/-- the cells of a slice or text, n elements of a size -/
def cellsOf (h : Heap) (size n : Nat) : AV → Option (List AV)
  | .sl b off len _ _ => if n ≤ len then (match h.get b with
    | some (.cells l _ _) => cut l off (n * size)
    | _ => none) else none
  | .nils => if n = 0 then some [] else none
  | .rs c _ => cut c 0 (n * size)
  | .str s => some ((s.take n).map fun c : Nat => .int .u8 c)
  | _ => none
def lenV : AV → Option Nat
  | .sl _ _ n _ _ => some n
  | .nils => some 0
  | .rs _ n => some n
  | .str s => some s.length
  | _ => none
/-- the most bytes that a row is let grow to -/
abbrev most : Nat := 70368744177664
/-- the most bytes that an append may come to -/
abbrev most2 : Nat := 140737488355328

def writeAt (h : Heap) (b off : Nat) (vs : List AV) : Option Heap := match h.get b with
  | some (.cells l e ver) => bif Nat.ble (off + vs.length) l.length && vs.all AV.one then some (h.put b (.cells (lsets vs l off) e (ver + 1))) else none
  | _ => none

def appendV (h : Heap) (size bytes : Nat) (e : TypeId) (s x : AV) : Option (AV × Heap) :=
  match lenV x with
  | none => none
  | some n => match cellsOf h size n x with
    | none => none
    | some new => if new.length = n * size ∧ new.all AV.one = true then match s with
      | .nils => if n = 0 then some (.nils, h) else if n * bytes ≤ most2 then some (.sl h.next 0 n n size, h.mk' h.next (.cells new e 0)) else none
      | .sl b off len cap sz => bif Nat.beq sz size then (
        if len + n ≤ cap then
          match writeAt h b (off + len * size) new with
          | some h' => some (.sl b off (len + n) cap sz, h')
          | none => none
        else if (len + n) * bytes ≤ most2 then
          match cellsOf h size len s with
          | some old => some (.sl h.next 0 (len + n) (len + n) sz, (h.put b .dead).mk' h.next (.cells (old ++ new) e 0))
          | none => none
        else none) else none
      | _ => none
      else none

def copyV (h : Heap) (size : Nat) (d x : AV) : Option (AV × Heap) :=
  match lenV x, lenV d with
  | some n, some m => match cellsOf h size (min n m) x with
    | none => none
    | some new => if new.length = min n m * size then match d with
      | .nils => some (.int .i64 0, h)
      | .sl b off _ _ _ => match writeAt h b off new with
        | some h' => some (.int .i64 (min n m : Nat), h')
        | none => none
      | _ => none
      else none
  | _, _ => none

/-- What an operation comes to, that calls no function. -/
inductive Out where
  | val (v : AV) (h : Heap)
  | fail
  | enter (f : Nat) (args : List AV)

def valO (h : Heap) : Option AV → Out
  | some v => .val v h
  | none => .fail
def valH : Option (AV × Heap) → Out
  | some (v, h) => .val v h
  | none => .fail

/-- 'nm': the name of a block that the operation makes -/
def vop (st : St) (nm : Nat) : VOp → Out
  | .bad => .fail
  | .mov x => .val (x.eval st) st.h
  | .pick c a b => match c.eval st with
    | .bool true => .val (a.eval st) st.h
    | .bool false => .val (b.eval st) st.h
    | _ => .fail
  | .alloc zero e => .val (.ptr nm 0) (st.h.mk' nm (.cells zero e 0))
  | .box e x => match (x.eval st).cells with
    | some c => .val (.ptr nm 0) (st.h.mk' nm (.cells c e 0))
    | none => .fail
  | .build zero parts => valO st.h ((fill zero (parts.map fun (o, n, x) => (o, n, x.eval st))).map .agg)
  | .bslice zero e len parts => match fill ((List.replicate len zero).flatten) (parts.map fun (o, n, x) => (o, n, x.eval st)) with
    | some cs => .val (.sl nm 0 len len zero.length) (st.h.mk' nm (.cells cs e 0))
    | none => .fail
  | .load agg n a => match a.eval st with
    | .ptr b off => match st.h.get b with
      | some (.cells l _ _) => valO st.h (part agg l off n)
      | _ => .fail
    | .rp l => valO st.h (part agg l 0 n)
    | _ => .fail
  | .store n a x => match a.eval st with
    | .ptr b off => match (x.eval st).cells with
      | some c => bif Nat.beq c.length n then (match writeAt st.h b off c with
        | some h => .val .undef h
        | none => .fail) else .fail
      | none => .fail
    | _ => .fail
  | .nilck x => match x.eval st with
    | .nilp | .nilf | .undef => .fail
    | v => .val v st.h
  | .bin op x y => valO st.h (bin op (x.eval st) (y.eval st))
  | .eqs k neg x y => valO st.h ((eqv k (x.eval st) (y.eval st)).map fun b => .bool (b != neg))
  | .un op x => valO st.h (un op (x.eval st))
  | .conv c x => match c, x.eval st with
    | .int k, .int _ n => .val (.int k (k.wrap n)) st.h
    | .same, .str s => .val (.str s) st.h
    | .mark, .sl b off len cap sz => if 0 < cap then (match st.h.get b with | some (.cells ..) => .val (.sl b off len cap sz) st.h | _ => .fail) else .fail
    | .bytes e, .str s => .val (.sl nm 0 s.length s.length 1) (st.h.mk' nm (.cells (s.map fun c : Nat => .int .u8 c) e 0))
    | .text, .str _ => .fail
    | .text, v => match lenV v with
      | some n => match cellsOf st.h 1 n v with
        | some cs => valO st.h ((cs.mapM AV.byte).map .str)
        | none => .fail
      | none => .fail
    | _, _ => .fail
  | .mkfn f caps => .val (.fn f (caps.map (·.eval st))) st.h
  | .mkmap => .val (.map nm) (st.h.mk' nm (.map [] 0))
  | .mkslice zero e bytes len cap => match len.eval st, cap.eval st with
    | .int .i64 l, .int .i64 c => if 0 ≤ l ∧ l ≤ c ∧ c.toNat * bytes ≤ most ∧ c.toNat ≤ most then
        .val (.sl nm 0 l.toNat c.toNat zero.length) (st.h.mk' nm (.cells ((List.replicate c.toNat zero).flatten) e 0)) else .fail
    | _, _ => .fail
  | .sliceA size n x lo hi mx => valO st.h (sliceA st.h size n (x.eval st) (lo.map (·.eval st)) (hi.map (·.eval st)) (mx.map (·.eval st)))
  | .slice size x lo hi mx => valO st.h (sliceV size (x.eval st) (lo.map (·.eval st)) (hi.map (·.eval st)) (mx.map (·.eval st)))
  | .sliceS x lo hi => valO st.h (sliceS (x.eval st) (lo.map (·.eval st)) (hi.map (·.eval st)))
  | .faddr off x => match x.eval st with
    | .ptr b o => .val (.ptr b (o + off)) st.h
    | .rp l => .val (.rp (l.drop off)) st.h
    | _ => .fail
  | .field agg off n x => match x.eval st with
    | .agg l => valO st.h (part agg l off n)
    | _ => .fail
  | .iaddr size arr x i => match i.eval st with
    | .int _ i => match x.eval st, arr with
      | .ptr b o, some len => if 0 ≤ i ∧ i < len then .val (.ptr b (o + i.toNat * size)) st.h else .fail
      | .sl b o len _ sz, none => if 0 ≤ i ∧ i < len ∧ sz = size then .val (.ptr b (o + i.toNat * size)) st.h else .fail
      | .rs l len, none => if 0 ≤ i ∧ i < len then .val (.rp (l.drop (i.toNat * size))) st.h else .fail
      | _, _ => .fail
    | _ => .fail
  | .index agg size len x i => match i.eval st with
    | .int _ i => match x.eval st with
      | .agg l => if 0 ≤ i ∧ i < len then valO st.h (part agg l (i.toNat * size) size) else .fail
      | _ => .fail
    | _ => .fail
  | .indexS x i => match i.eval st with
    | .int _ i => match x.eval st with
      | .str s => if 0 ≤ i then valO st.h ((s[i.toNat]?).map fun c : Nat => .int .u8 c) else .fail
      | _ => .fail
    | _ => .fail
  | .lookup c zero ok x i =>
    match (match x.eval st with
      | .nilm => some none
      | .map b => (match st.h.get b with | some (.map es _) => findE c (i.eval st) es | _ => none)
      | _ => none) with
    | none => .fail
    | some r => let v := r.getD zero
      .val (if ok then .tup [v, .bool r.isSome] else v) st.h
  | .mupd c m k v => match m.eval st with
    | .map b => match st.h.get b with
      | some (.map es ver) => match findE c (k.eval st) es with
        | some _ => .val .undef (st.h.put b (.map (updE c (k.eval st) (v.eval st) es) (ver + 1)))
        | none => .fail
      | _ => .fail
    | _ => .fail
  | .extract x i => match x.eval st with
    | .tup l => valO st.h l[i]?
    | _ => .fail
  | .call f args => .enter f (args.map (·.eval st))
  | .callv x args => match x.eval st with
    | .fn f caps => .enter f (args.map (·.eval st) ++ caps)
    | _ => .fail
  | .bi b args => match b, args.map (·.eval st) with
    | .len k, [x] => match k, x with
      | 0, .str s => .val (.int .i64 s.length) st.h
      | 1, .sl _ _ n _ _ => .val (.int .i64 n) st.h
      | 1, .nils => .val (.int .i64 0) st.h
      | 1, .rs _ n => .val (.int .i64 n) st.h
      | 2, .map b => (match st.h.get b with | some (.map es _) => .val (.int .i64 es.length) st.h | _ => .fail)
      | 2, .nilm => .val (.int .i64 0) st.h
      | _, _ => .fail
    | .append size bytes e, [s, x] => valH (appendV st.h size bytes e s x)
    | .copy size, [d, x] => valH (copyV st.h size d x)
    | .max, x :: l => valO st.h (foldO max2 x l)
    | .min, x :: l => valO st.h (foldO min2 x l)
    | .clear, [x] => match x with
      | .nilm => .val (.tup []) st.h
      | .map b => (match st.h.get b with | some (.map _ ver) => .val (.tup []) (st.h.put b (.map [] (ver + 1))) | _ => .fail)
      | _ => .fail
    | .clearS zero, [x] => match x with
      | .nils => .val (.tup []) st.h
      | .sl b off len _ _ => bif Nat.beq len 0 then .val (.tup []) st.h else (match writeAt st.h b off (List.replicate len zero).flatten with
        | some h => .val (.tup []) h
        | none => .fail)
      | _ => .fail
    | .delete c, [m, k] => match m with
      | .map b => (match st.h.get b with
        | some (.map es ver) => (match findE c k es with | some _ => .val (.tup []) (st.h.put b (.map (delE c k es) (ver + 1))) | none => .fail)
        | _ => .fail)
      | _ => .fail
    | _, _ => .fail

def wanted (st : St) : Option (Nat × Bool) → Bool
  | none => true
  | some (t, want) => match st.get t with
    | .bool b => b == want
    | _ => false

/-- One operation; 'call' carries out a function. -/
def vdo (call : Nat → List AV → Heap → Option (AV × Heap)) (st : St) (nm : Nat) (o : VO) : Option St :=
  bif wanted st o.guard then
    match vop st nm o.op with
    | .val v h => some (St.put ⟨st.s, h⟩ o.dst v)
    | .fail => none
    | .enter f args => match call f args st.h with
      | some (v, h) => some (St.put ⟨st.s, h⟩ o.dst v)
      | none => none
  else some (st.put o.dst .undef)

def vops (call : Nat → List AV → Heap → Option (AV × Heap)) : List VO → St → Option St
  | [], st => some st
  | o :: l, st => match vdo call st st.h.next o with
    | some st' => vops call l st'
    | none => none

/-! ### regions whose order is drawn -/
mutual
def AV.eqb : AV → AV → Bool
  | .undef, .undef => true
  | .bool a, .bool b => a == b
  | .int k n, .int k' m => decide (k = k') && decide (n = m)
  | .str a, .str b => decide (a = b)
  | .ptr a b, .ptr c d => Nat.beq a c && Nat.beq b d
  | .nilp, .nilp => true
  | .sl a b c d e, .sl a' b' c' d' e' => Nat.beq a a' && Nat.beq b b' && Nat.beq c c' && Nat.beq d d' && Nat.beq e e'
  | .nils, .nils => true
  | .map a, .map b => Nat.beq a b
  | .nilm, .nilm => true
  | .fn f l, .fn g k => Nat.beq f g && AV.eqbs l k
  | .nilf, .nilf => true
  | .agg l, .agg k => AV.eqbs l k
  | .tup l, .tup k => AV.eqbs l k
  | .rs l n, .rs k m => Nat.beq n m && AV.eqbs l k
  | .rp l, .rp k => AV.eqbs l k
  | _, _ => false
def AV.eqbs : List AV → List AV → Bool
  | [], [] => true
  | x :: l, y :: k => AV.eqb x y && AV.eqbs l k
  | _, _ => false
end
def Opd.tmp : Opd → List Nat
  | .t n => [n]
  | .c _ => []
def optTmp : Option Opd → List Nat
  | some x => x.tmp
  | none => []
def partTmps (l : List (Nat × Nat × Opd)) : List Nat := (l.map fun p => p.2.2.tmp).flatten
def opdTmps (l : List Opd) : List Nat := (l.map Opd.tmp).flatten
/-- the slots that an operation looks at -/
def VOp.tmps : VOp → List Nat
  | .bad | .alloc .. | .mkmap => []
  | .mov x | .box _ x | .load _ _ x | .nilck x | .un _ x | .conv _ x | .faddr _ x | .field _ _ _ x | .extract x _ => x.tmp
  | .pick a b c => a.tmp ++ b.tmp ++ c.tmp
  | .build _ ps | .bslice _ _ _ ps => partTmps ps
  | .store _ a x | .bin _ a x | .eqs _ _ a x | .iaddr _ _ a x | .index _ _ _ a x | .indexS a x | .lookup _ _ _ a x | .mkslice _ _ _ a x => a.tmp ++ x.tmp
  | .mkfn _ l | .call _ l | .bi _ l => opdTmps l
  | .callv x l => x.tmp ++ opdTmps l
  | .slice _ x lo hi mx | .sliceA _ _ x lo hi mx => x.tmp ++ optTmp lo ++ optTmp hi ++ optTmp mx
  | .sliceS x lo hi => x.tmp ++ optTmp lo ++ optTmp hi
  | .mupd _ m k v => m.tmp ++ k.tmp ++ v.tmp
def VO.looks (o : VO) : List Nat := (match o.guard with | some g => [g.1] | none => []) ++ o.op.tmps
/-- 0: slots alone; 1: looks at memory; 2: the rest -/
def VOp.kind : VOp → Nat
  | .load .. | .lookup .. | .sliceA .. => 1
  | .conv c _ => match c with
    | .bytes _ => 2
    | .text | .mark => 1
    | _ => 0
  | .bi b _ => match b with
    | .len _ => 1
    | .max | .min => 0
    | _ => 2
  | .bad | .alloc .. | .box .. | .bslice .. | .store .. | .mkmap | .mkslice .. | .mupd .. | .call .. | .callv .. => 2
  | _ => 0
def VO.acts (o : VO) : Bool := Nat.beq o.op.kind 2

def vtrace (call : Nat → List AV → Heap → Option (AV × Heap)) : List VO → St → Option (List St)
  | [], st => some [st]
  | o :: l, st => match vdo call st st.h.next o with
    | some st' => (vtrace call l st').map (st :: ·)
    | none => none
/-- a look at memory that has no place in the order: does it see the same at each of these? -/
def looseOk (call : Nat → List AV → Heap → Option (AV × Heap)) (l : List VO) (tr : List St) (loose : List (Nat × List Nat)) : Bool :=
  loose.all fun p => p.2.all fun k => match l[p.1]?, tr[p.1]?, tr[k]?, tr[p.1 + 1]? with
    | some o, some si, some sk, some sj => (match vdo call ⟨si.s, sk.h⟩ sk.h.next o with
      | some s' => (match o.dst with
        | some d => AV.eqb (s'.get d) (sj.get d)
        | none => true)
      | none => false)
    | _, _, _, _ => false

/-- a new block, its content out of slots alone -/
def VOp.fresh : VOp → Bool
  | .alloc .. | .box .. | .bslice .. | .mkslice .. | .mkmap => true
  | _ => false
/-- the name of a new block at a place of a region -/
def nameAt (base i : Nat) (o : VO) (h : Heap) : Nat := bif o.op.fresh then base + i else h.next
/-- names for the new blocks of a region, ahead of it -/
def reserve (base : Nat) : List VO → Nat → Heap → Heap
  | [], _, h => h
  | o :: l, i, h => reserve base l (i + 1) (bif o.op.fresh then h.mk' (base + i) .dead else h)
def mtrace (call : Nat → List AV → Heap → Option (AV × Heap)) (base : Nat) : List VO → Nat → St → Option (List St)
  | [], _, st => some [st]
  | o :: l, i, st => match vdo call st (nameAt base i o st.h) o with
    | some st' => (mtrace call base l (i + 1) st').map (st :: ·)
    | none => none

def resOf (st : St) : VRes → Option AV
  | .tmp t => some (st.get t)
  | .cell a agg n => match st.get a with
    | .ptr b off => match st.h.get b with
      | some (.cells l _ _) => part agg l off n
      | _ => none
    | _ => none
def results (st : St) (l : List VRes) : Option AV :=
  match l.mapM (resOf st) with
  | some [v] => some v
  | some vs => some (.tup vs)
  | none => none

def argsT : List AV → Nat → T AV → T AV
  | [], _, t => t
  | v :: l, i, t => argsT l (i + 1) (t.set i v)

def vstep (call : Nat → List AV → Heap → Option (AV × Heap)) (rec : VCode → St → Option (Ex × St)) : VCode → St → Option (Ex × St)
  | .bad, _ => none
  | .skip, st => some (.normal, st)
  | .ops l, st => match vops call l st with
    | some st' => some (.normal, st')
    | none => none
  | .drawn l loose, st => match vtrace call l st with
    | some tr => bif looseOk call l tr loose then (tr.getLast?).map (fun st' => (.normal, st')) else none
    | none => none
  | .mixed l loose, st => match mtrace call st.h.next l 0 ⟨st.s, reserve st.h.next l 0 st.h⟩ with
    | some tr => bif looseOk call l tr loose then (tr.getLast?).map (fun st' => (.normal, st')) else none
    | none => none
  | .seq a b, st => match rec a st with
    | some (.normal, st') => rec b st'
    | r => r
  | .cond c a b, st => match c.eval st with
    | .bool true => rec a st
    | .bool false => rec b st
    | _ => none
  | .block id b, st => match rec b st with
    | some (.exit i, st') => bif Nat.beq i id then some (.normal, st') else some (.exit i, st')
    | r => r
  | .loop b, st => match rec b st with
    | some (.normal, st') => rec (.loop b) st'
    | r => r
  | .exit id, st => some (.exit id, st)
  | .ret, st => some (.ret, st)

/-- 'X': functions that are told otherwise. -/
abbrev Told := Nat → List AV → Heap → Option (AV × Heap)

mutual
def vexec (F : Nat → Option VFun) (X : Told) : Nat → VCode → St → Option (Ex × St)
  | 0, _, _ => none
  | n + 1, c, st => vstep (vcall F X n) (vexec F X n) c st
def vcall (F : Nat → Option VFun) (X : Told) : Nat → Nat → List AV → Heap → Option (AV × Heap)
  | 0, _, _, _ => none
  | n + 1, f, args, h => match X f args h with
    | some r => some r
    | none => match F f with
      | none => none
      | some fn => bif Nat.beq args.length fn.nargs then
          match vexec F X n fn.body ⟨argsT args 0 .e, h⟩ with
          | some (.normal, st) | some (.ret, st) => (results st fn.res).map fun v => (v, st.h)
          | _ => none
        else none
end

end Go.Proofs.Ytinonmcnofjeeaa.VM
