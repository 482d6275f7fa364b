/- From the program's text to the small machine's: definitions alone. -/
import Derived.Test.YtinonmcnofjeeaaVM0
namespace Go.Proofs.Ytinonmcnofjeeaa.VM
set_option linter.unusedSimpArgs false
set_option linter.unusedVariables false
set_option linter.defProp false
set_option maxHeartbeats 1000000

def avCell : Value → Option AV
  | .bool b => some (.bool b)
  | .int k n => some (.int k n)
  | .string s => some (.str (s.data.toList.map fun c => c.toNat))
  | .pointer none => some .nilp
  | .slice none 0 0 => some .nils
  | .map none => some .nilm
  | .nilFunc => some .nilf
  | _ => none
def avOf : Value → Option AV
  | .agg cs => (cs.toList.mapM avCell).map .agg
  | v => avCell v
def cOpd : Operand → Option Opd
  | .tmp t => some (.t t)
  | .const v => (avOf v).map .c
  | .func f => some (.c (.fn f []))
  | .global _ => none
def cOpds (l : List Operand) : Option (List Opd) := l.mapM cOpd
section
variable (P : Program)
def zeroC (t : TypeId) : Option (List AV) := match P.info? t with
  | some i => match i.zero with
    | some v => match (avOf v).bind AV.cells with
      | some l => if l.length = i.size ∧ v.cells.size = i.size then some l else none
      | none => none
    | none => none
  | none => none
def isAggB (t : TypeId) : Bool := match P.underlying t with
  | some (.struct _) | some (.array _ _) => true
  | _ => false
def has (t : TypeId) : Bool := (P.info? t).isSome && (P.underlying t).isSome
/-- a type whose '==' goes cell by cell: its cells' kinds -/
def eqFs (rec : TypeId → Option (List EqC)) : List Field → Nat → Option (List EqC)
  | [], _ => some []
  | f :: fs, n => if f.name = "_" ∨ f.offset ≠ n ∨ has P f.type = false then none else match rec f.type with
    | some ks => if P.cellsOf f.type = ks.length then (eqFs rec fs (n + ks.length)).map (ks ++ ·) else none
    | none => none
def eqFlat : Nat → TypeId → Option (List EqC)
  | 0, _ => none
  | d + 1, t => match P.underlying t with
    | some (.int _) => some [.int]
    | some .bool => some [.bool]
    | some .string => some [.str]
    | some (.struct fs) => if P.stoodInHeld t = true then none else eqFs P (eqFlat d) fs.toList 0
    | _ => none
def keyC (t : TypeId) : Option EqC := match P.underlying t with
  | some (.int _) => some .int
  | some .bool => some .bool
  | some .string => some .str
  | _ => none
def cParts (place : Nat → Option (Nat × Nat)) (ps : List (Nat × Operand)) : Option (List (Nat × Nat × Opd)) :=
  ps.mapM fun (i, x) => match place i, cOpd x with
    | some (o, n), some y => some (o, n, y)
    | _, _ => none
def optO (o : Option Operand) : Option (Option Opd) := match o with
  | none => some none
  | some x => (cOpd x).map some
def cCall (c : Call) : Option VOp :=
  match cOpds c.args.toList with
  | none => none
  | some args => match c.callee with
    | .value (.func f) => match P.funcs[f]? with
      | some fn => if fn.body.isSome ∧ fn.name ≠ "runtime.NumGoroutine" then some (.call f args) else none
      | none => none
    | .value (.tmp t) => some (.callv (.t t) args)
    | .builtin b => match b, args with
      | .len, [x] => match c.argTypes[0]? with
        | some t => match P.underlying t with
          | some .string => some (.bi (.len 0) [x])
          | some (.slice _) => some (.bi (.len 1) [x])
          | some (.map _ _) => some (.bi (.len 2) [x])
          | _ => none
        | none => none
      | .append, [s, x] => match c.argTypes[0]?, c.argTypes[1]? with
        | some t, some u => match P.underlying t, P.underlying u with
          | some (.slice e), some (.slice _) | some (.slice e), some .string => if has P e = true ∧ 0 < P.bytesOf e ∧ (zeroC P e).isSome = true ∧ c.argTypes.size = 2 then some (.bi (.append (P.cellsOf e) (P.bytesOf e) e) [s, x]) else none
          | _, _ => none
        | _, _ => none
      | .copy, [d, s] => match c.argTypes[0]? with
        | some t => match P.underlying t with
          | some (.slice e) => if has P e then some (.bi (.copy (P.cellsOf e)) [d, s]) else none
          | _ => none
        | none => none
      | .max, l => some (.bi .max l)
      | .min, l => some (.bi .min l)
      | .clear, [x] => match c.argTypes[0]? with
        | some t => match P.underlying t with
          | some (.map _ _) => some (.bi .clear [x])
          | some (.slice e) => match zeroC P e with
            | some z => if 0 < z.length then some (.bi (.clearS z) [x]) else none
            | none => none
          | _ => none
        | none => none
      | .delete, [m, k] => match c.argTypes[0]? with
        | some t => match P.underlying t with
          | some (.map kt _) => (keyC P kt).map fun c => .bi (.delete c) [m, k]
          | _ => none
        | none => none
      | _, _ => none
    | _ => none
def cOp (o : Oper) : Option VOp :=
  match o.op with
  | .move x | .assign x => (cOpd x).map .mov
  | .pick c a b => match cOpd c, cOpd a, cOpd b with
    | some c, some a, some b => some (.pick c a b)
    | _, _, _ => none
  | .alloc e => (zeroC P e).map (.alloc · e)
  | .box e x => (cOpd x).map (.box e ·)
  | .build t ps => match zeroC P t, P.underlying t with
    | some z, some (.struct fs) => (cParts (fun i => (fs[i]?).map fun f => (f.offset, P.cellsOf f.type)) ps.toList).bind fun q => if fs.toList.all (fun f => has P f.type) then some (.build z q) else none
    | some z, some (.array _ e) => if has P e then (cParts (fun i => some (i * P.cellsOf e, P.cellsOf e)) ps.toList).map (.build z ·) else none
    | _, _ => none
  | .buildSlice t len ps => match P.underlying t with
    | some (.slice e) => match zeroC P e with
      | some z => if 0 < z.length ∧ len * P.cellsOf e ≤ 16777216 then (cParts (fun i => some (i * P.cellsOf e, P.cellsOf e)) ps.toList).map (.bslice z e len ·) else none
      | none => none
    | _ => none
  | .load t a => if has P t then (cOpd a).map (.load (isAggB P t) (P.cellsOf t) ·) else none
  | .store t a x => match cOpd a, cOpd x with
    | some a, some x => if has P t then some (.store (P.cellsOf t) a x) else none
    | _, _ => none
  | .nilCheck x => (cOpd x).map .nilck
  | .binOp op t x y _ => match cOpd x, cOpd y with
    | some x, some y =>
      if op = .eql ∨ op = .neq then
        match P.underlying t with
        | some (.int _) | some .string => some (.bin op x y)
        | some .bool => some (.eqs .bool (op = .neq) x y)
        | some (.pointer _) => some (.eqs .ptr (op = .neq) x y)
        | some (.slice _) => some (.eqs .sl (op = .neq) x y)
        | some (.map _ _) => some (.eqs .map (op = .neq) x y)
        | some (.func _ _ _) => some (.eqs .fn (op = .neq) x y)
        | some (.struct _) => match eqFlat P 5 t with
          | some ks => if P.eqGuardType P.depth t = false then some (.eqs (.flat ks) (op = .neq) x y) else none
          | none => none
        | _ => none
      else match P.underlying t with
        | some (.int _) | some .string => some (.bin op x y)
        | _ => none
    | _, _ => none
  | .unOp op _ x => (cOpd x).map (.un op ·)
  | .convert src dst x => match P.underlying src, P.underlying dst, cOpd x with
    | some (.int _), some (.int k), some x => some (.conv (.int k) x)
    | some .string, some .string, some x => some (.conv .same x)
    | some (.slice e), some .string, some x => match P.underlying e with
      | some (.int .u8) => some (.conv .text x)
      | _ => none
    | some (.slice _), some (.slice e), some x => match P.underlying e with
      | some (.int .u8) => if src = dst then some (.conv .mark x) else none
      | _ => none
    | _, _, _ => none
  | .makeFunc (.func f) first caps => if first = #[] then (cOpds caps.toList).map (.mkfn f ·) else none
  | .makeMap _ none => some .mkmap
  | .makeSlice t l c => match P.underlying t with
    | some (.slice e) => match zeroC P e, cOpd l, cOpd c with
      | some z, some l, some c => if 0 < z.length then some (.mkslice z e (P.bytesOf e) l c) else none
      | _, _, _ => none
    | _ => none
  | .slice t x lo hi mx => match cOpd x, optO lo, optO hi, optO mx with
    | some x, some lo, some hi, some mx => match P.underlying t with
      | some (.array n e) => if has P e then some (.sliceA (P.cellsOf e) n x lo hi mx) else none
      | some (.slice e) => if has P e then some (.slice (P.cellsOf e) x lo hi mx) else none
      | some .string => if mx.isNone then some (.sliceS x lo hi) else none
      | _ => none
    | _, _, _, _ => none
  | .fieldAddr s x i => match P.underlying s, cOpd x with
    | some (.struct fs), some x => match fs[i]? with
      | some f => if has P f.type ∧ P.cellsOf f.type ≠ 0 then some (.faddr f.offset x) else none
      | none => none
    | _, _ => none
  | .field s x i => match P.underlying s, cOpd x with
    | some (.struct fs), some x => match fs[i]? with
      | some f => if has P f.type then some (.field (isAggB P f.type) f.offset (P.cellsOf f.type) x) else none
      | none => none
    | _, _ => none
  | .indexAddr t x i => match P.underlying t, cOpd x, cOpd i with
    | some (.array n e), some x, some i => if has P e then some (.iaddr (P.cellsOf e) (some n) x i) else none
    | some (.slice e), some x, some i => if has P e then some (.iaddr (P.cellsOf e) none x i) else none
    | _, _, _ => none
  | .index t x i => match P.underlying t, cOpd x, cOpd i with
    | some (.array n e), some x, some i => if has P e then some (.index (isAggB P e) (P.cellsOf e) n x i) else none
    | some .string, some x, some i => some (.indexS x i)
    | _, _, _ => none
  | .lookup t x i ok => match P.underlying t, cOpd x, cOpd i with
    | some (.map kt e), some x, some i => match keyC P kt, (P.info? e).bind (·.zero) with
      | some c, some z => (avOf z).map (.lookup c · ok x i)
      | _, _ => none
    | _, _, _ => none
  | .mapUpdate t m k v | .insert t m k v => match P.underlying t, cOpd m, cOpd k, cOpd v with
    | some (.map kt _), some m, some k, some v => (keyC P kt).map fun c => .mupd c m k v
    | _, _, _, _ => none
  | .extract x i => (cOpd x).map (.extract · i)
  | .call c => cCall P c
  | _ => none
def cOper (nt : Nat) (ops : Array Oper) (o : Oper) : Option VO :=
  match (cOp P o).getD .bad with
  | v =>
    if o.dst.all (· < nt) then
      match o.guard with
      | none => some ⟨o.dst, none, v⟩
      | some (j, want) => match (ops[j]?).bind (·.dst) with
        | some t => some ⟨o.dst, some (t, want), v⟩
        | none => none
    else none
def cOpers (nt : Nat) (ops : Array Oper) : Option (List VO) := ops.toList.mapM (cOper P nt ops)
/-- of each operation those that come first, in every order -/
def before (ops : Array Oper) : List (List Nat) :=
  (ops.toList.foldl (fun (acc : List (List Nat)) o =>
    acc ++ [(List.range acc.length).filter fun i => o.after.toList.any fun e => Region.binds .any e && (Nat.beq e.on i || (acc.getD e.on []).contains i)]) [])
def edges (o : Oper) : List Nat := (o.after.toList.filter fun e => Region.binds .any e).map (·.on)
def firstChk (os : List Oper) (B : List (List Nat)) : Bool :=
  os.zipIdx.all fun p => (edges p.1).all (fun e => Nat.blt e p.2) && (B.getD p.2 []).all fun j => (edges p.1).any fun e => Nat.beq e j || (B.getD e []).contains j
def pairChk (B : List (List Nat)) (x y : VO × Nat) : Bool :=
  Nat.beq x.2 y.2 ||
    ((match x.1.dst with
      | some t => (y.1.dst != some t) && (!(y.1.looks.contains t) || (Nat.blt x.2 y.2 && (B.getD y.2 []).contains x.2) || (Nat.blt y.2 x.2 && (B.getD x.2 []).contains y.2))
      | none => true) &&
     (!(x.1.acts && y.1.acts && Nat.blt x.2 y.2) || (B.getD y.2 []).contains x.2))
def drawnChk (os : List Oper) (l : List VO) (B : List (List Nat)) : Bool :=
  firstChk os B && l.zipIdx.all fun x => l.zipIdx.all fun y => pairChk B x y
def actAt (l : List VO) (j : Nat) : Bool := match l[j]? with
  | some o => o.acts
  | none => false
def looseKs (l : List VO) (B : List (List Nat)) (i : Nat) : List Nat :=
  (List.range (l.length + 1)).filter fun k =>
    (Nat.beq k 0 || actAt l (k - 1)) && (List.range l.length).all (fun j => !(actAt l j) || ((!((B.getD i []).contains j) || Nat.blt j k) && (!((B.getD j []).contains i) || Nat.ble k j))) &&
    (List.range l.length).any (fun j => actAt l j && ((Nat.ble k j && Nat.blt j i) || (Nat.ble i j && Nat.blt j k)))
def looseOf (l : List VO) (B : List (List Nat)) : List (Nat × List Nat) :=
  (l.zipIdx.filterMap fun p => if Nat.beq p.1.op.kind 1 then (match looseKs l B p.2 with | [] => none | ks => some (p.2, ks)) else none)
def mixPair (B : List (List Nat)) (x y : VO × Nat) : Bool :=
  Nat.beq x.2 y.2 ||
    ((match x.1.dst with
      | some t => (y.1.dst != some t) && (!(y.1.looks.contains t) || (Nat.blt x.2 y.2 && (B.getD y.2 []).contains x.2) || (Nat.blt y.2 x.2 && (B.getD x.2 []).contains y.2))
      | none => true) &&
     (!(x.1.acts && y.1.acts && Nat.blt x.2 y.2) || (B.getD y.2 []).contains x.2 || y.1.op.fresh))
/-- what a look comes behind has no act ahead of it that may come later -/
def lookChk (l : List VO) (B : List (List Nat)) : Bool :=
  l.zipIdx.all fun p => !(Nat.beq p.1.op.kind 1) || (List.range l.length).all fun j => !(actAt l j && (B.getD p.2 []).contains j) ||
    (List.range j).all fun x => !(actAt l x) || (B.getD p.2 []).contains x
def mixedChk (os : List Oper) (l : List VO) (B : List (List Nat)) : Bool :=
  firstChk os B && (l.zipIdx.all fun x => l.zipIdx.all fun y => mixPair B x y) && lookChk l B
def cCode (nt : Nat) : Code → Option VCode
  | .skip => some .skip
  | .region _ ops false => (cOpers P nt ops).map .ops
  | .region _ ops true => (cOpers P nt ops).map fun l => bif drawnChk ops.toList l (before ops) then .drawn l (looseOf l (before ops)) else bif mixedChk ops.toList l (before ops) then .mixed l (looseOf l (before ops)) else .bad
  | .seq a b => match cCode nt a, cCode nt b with
    | some a, some b => some (.seq a b)
    | _, _ => none
  | .cond c a b => match cOpd c, cCode nt a, cCode nt b with
    | some c, some a, some b => some (.cond c a b)
    | _, _, _ => none
  | .block id b => (cCode nt b).map (.block id ·)
  | .loop b => (cCode nt b).map .loop
  | .exit id => some (.exit id)
  | .ret => some .ret
  | _ => some .bad
def cRes : ResultVar → Option VRes
  | .tmp t => some (.tmp t)
  | .cell a t => if has P t then some (.cell a (isAggB P t) (P.cellsOf t)) else none
def cFun (fn : Func) : Option VFun :=
  match fn.body with
  | none => none
  | some c => match cCode P fn.ntmps c, fn.results.toList.mapM (cRes P) with
    | some c, some r => if fn.params.size + fn.nfree ≤ fn.ntmps then some ⟨fn.params.size + fn.nfree, r, c⟩ else none
    | _, _ => none
end
end Go.Proofs.Ytinonmcnofjeeaa.VM
