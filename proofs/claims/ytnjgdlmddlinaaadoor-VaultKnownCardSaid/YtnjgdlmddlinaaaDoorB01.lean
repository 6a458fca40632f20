/- A part of the proofs about the chapter of the vaults; it states no condition of its own. -/
import Derived.OrdersIn
import Derived.RangeFuncLeaves
import Derived.RangeFuncIn
import Derived.RangeFuncCalls
import Derived.KernelRfl
import Derived.WalkKit
import Derived.Lib.LaidTab
import Derived.Lib.ItoaNum
import Derived.Lib.ItoaWalk
set_option linter.unusedVariables false
set_option linter.unusedSimpArgs false
/- A machine on values, its data and its operations: what an operation does to values, to objects, whatever the order, the capacities and the block numbers are. Nothing here names the program. -/
namespace Go.Proofs.YtnjgdlmddlinaaaDoor.Vm

inductive PV where
 | int (k : IntKind) (n : Int)
 | bool (b : Bool)
 | str (s : ByteArray)
 | nilp
 | nilm
 | nilf
 | ifc (isNil : Bool)
 | sl (k : Nat) (xs : List (List PV))

inductive VV where
 | p (v : PV)
 | any
 | agg (cs : List VV)
 | tup (vs : List VV)
 | so (id k : Nat) (xs : List (List PV))
 | sf (k : Nat) (xs : List (List PV))
 | ptr (id off : Nat)
 | ip (cs : List PV)
 | iv (cs : List VV)
 | bf (id off n k : Nat)
 | mp (id : Nat)
 | fn (f : Fn) (first caps : List VV)
 | sv (k : Nat) (xs : List (List VV))
 | sw (id k : Nat) (xs : List (List VV))
 | yl (id : Nat)

structure LoopV where
 fid : Nat
 round : Option Nat
 dfr : Nat
 nt : Nat
 tm : List (Nat × VV)
 params : List Nat
 assign : Code
 body : Code
 st : LoopState
 pend : Option Code

inductive KSh where
 | int (k : IntKind)
 | nums (n : Nat)
 deriving DecidableEq

inductive VObj where
 | obj (cs : List VV)
 | clm (m k : Nat)
 | mpo (sh : KSh) (es : List (List Int × VV))
 | lp (l : LoopV)
 | dfr
 | dead
 | gone
 | bld (tB tE j : Nat) (l : List UInt8)

def bysV (l : List UInt8) : List (List PV) := l.map fun b => [.int .u8 b.toNat]

structure Mem where
 H : List VObj
 lg : List (Nat × Nat)

inductive Td where
 | int (k : IntKind)
 | bool
 | str
 | slice (e ke be : Nat)
 | arr (n e ke : Nat)
 | map (key e : Nat)
 | struct (fs : List (Nat × Nat))
 | iface
 | other
structure Ty where
 d : Td
 size : Nat
 zero : List Value
 agg : Bool
 cmp : Bool
structure Tab where
 ty : Nat → Option Ty
 fn : Nat → Option Func
 vars : Nat → List Nat
 keeps : Nat → Bool
 own : Nat → Bool := fun _ => false
 ownS : Nat → Nat → Bool := fun _ _ => false

def ofValue : Value → VV
 | .int k n => .p (.int k n)
 | .bool b => .p (.bool b)
 | .string s => .p (.str s)
 | .pointer none => .p .nilp
 | .map none => .p .nilm
 | .nilFunc => .p .nilf
 | .nilIface => .p (.ifc true)
 | .slice none 0 0 => .sf 0 []
 | .func f ⟨[]⟩ ⟨[]⟩ => .fn f [] []
 | _ => .any

abbrev Env := List (Nat × VV)
def get : Env → Nat → VV
 | [], _ => .any
 | (k, v) :: e, t => bif Nat.beq t k then v else get e t
def ev (e : Env) : Operand → VV
 | .tmp t => get e t
 | .const v => ofValue v
 | .global _ => .any
 | .func f => .fn (.func f) [] []

def isCell : VV → Bool
 | .any | .agg _ | .tup _ => false
 | _ => true
def cellsOf : VV → List VV
 | .agg cs => cs
 | v => [v]
def strip1 : VV → VV
 | .so _ k xs => .p (.sl k xs)
 | .sf k xs => .p (.sl k xs)
 | v => v
def toP : VV → Option PV
 | .p v => some v
 | .so _ k xs => some (.sl k xs)
 | .sf k xs => some (.sl k xs)
 | _ => none
def toPs : List VV → Option (List PV)
 | [] => some []
 | v :: vs => match toP v, toPs vs with
  | some x, some xs => some (x :: xs)
  | _, _ => none
def toPss : List (List VV) → Option (List (List PV))
 | [] => some []
 | v :: vs => match toPs v, toPss vs with
  | some x, some xs => some (x :: xs)
  | _, _ => none

mutual
def refs : VV → List Nat
 | .so id _ _ => [id]
 | .ptr id _ => [id]
 | .bf id _ _ _ => [id]
 | .mp id => [id]
 | .yl id => [id]
 | .agg cs => refsL cs
 | .tup vs => refsL vs
 | .iv cs => refsL cs
 | .fn _ a b => refsL a ++ refsL b
 | .sv _ xs => refsLL xs
 | .sw id _ xs => id :: refsLL xs
 | _ => []
def refsL : List VV → List Nat
 | [] => []
 | v :: vs => refs v ++ refsL vs
def refsLL : List (List VV) → List Nat
 | [] => []
 | v :: vs => refsL v ++ refsLL vs
end

def splice (cs : List VV) (off : Nat) (ws : List VV) : List VV := cs.take off ++ ws ++ cs.drop (off + ws.length)

def pureOf : Sem Value → Option Value
 | .pure v => some v
 | _ => none

def Mem.push (M : Mem) (o : VObj) : Mem := { M with H := M.H ++ [o] }

def addLg (id : Nat) (rs : List Nat) (lg : List (Nat × Nat)) : List (Nat × Nat) :=
 match rs.filter (fun r => Nat.blt id r && !(lg.any fun e => Nat.beq e.1 id && Nat.beq e.2 r)) with
 | [] => lg
 | rs => lg ++ rs.map fun r => (id, r)

section ops
variable (T : Tab)

def vload (t : Nat) (a : VV) (M : Mem) : Option VV :=
 match T.ty t with
 | none => none
 | some y =>
  match a with
  | .ptr id off =>
   match M.H[id]? with
   | some (.obj cs) => bif y.agg then (bif Nat.ble (off + y.size) cs.length then some (.agg (((cs.drop off).take y.size).map strip1)) else none) else cs[off]?
   | _ => none
  | .ip cs => bif y.agg then (bif Nat.ble y.size cs.length then some (.agg ((cs.take y.size).map .p)) else none) else (cs[0]?).map .p
  | .iv cs => bif y.agg then (bif Nat.ble y.size cs.length then some (.agg ((cs.take y.size).map strip1)) else none) else cs[0]?
  | _ => none

def vstore (t : Nat) (a v : VV) (M : Mem) : Option Mem :=
 match T.ty t, a with
 | some y, .ptr id off =>
  match M.H[id]? with
  | some (.obj cs) =>
   bif Nat.beq (cellsOf v).length y.size && Nat.ble (off + y.size) cs.length && (cellsOf v).all isCell then
    some { H := M.H.set id (.obj (splice cs off (cellsOf v))), lg := addLg id (refs v) M.lg }
   else none
  | _ => none
 | _, _ => none

def vfill (place : Nat → Option (Nat × Nat)) (cs : List VV) : List (Nat × VV) → Option (List VV)
 | [] => some cs
 | (i, v) :: rest =>
  match place i with
  | none => none
  | some (off, size) =>
   bif Nat.beq (cellsOf v).length size && Nat.ble (off + size) cs.length && (cellsOf v).all isCell then vfill place (splice cs off ((cellsOf v).map strip1)) rest else none

def elemsOf : VV → Option (Nat × List (List PV))
 | .p (.sl k xs) => some (k, xs)
 | .so _ k xs => some (k, xs)
 | .sf k xs => some (k, xs)
 | _ => none

def fits (k k' : Nat) (xs : List (List PV)) : Bool := Nat.beq k k' || xs.isEmpty

def idx (v : VV) : Option Nat :=
 match v with
 | .p (.int _ i) => bif decide (0 ≤ i) then some i.toNat else none
 | _ => none

def vindexAddr (t : Nat) (x i : VV) : Option VV :=
 match T.ty t, idx i with
 | some y, some n =>
  match y.d with
  | .slice _ ke _ =>
   match x with
   | .bf id off m k => bif Nat.blt n m && Nat.beq k ke then some (.ptr id (off + n * ke)) else none
   | .sv k xs => bif Nat.beq k ke then (xs[n]?).map .iv else none
   | .sw _ k xs => bif Nat.beq k ke then (xs[n]?).map .iv else none
   | x => match elemsOf x with
    | some (k, xs) => bif Nat.beq k ke then (xs[n]?).map .ip else none
    | none => none
  | .arr m _ ke =>
   bif Nat.blt n m then
    (match x with
    | .ptr id off => some (.ptr id (off + n * ke))
    | .ip cs => some (.ip (cs.drop (n * ke)))
    | .iv cs => some (.iv (cs.drop (n * ke)))
    | _ => none)
   else none
  | _ => none
 | _, _ => none

def vfieldAddr (t : Nat) (x : VV) (f : Nat) : Option VV :=
 match T.ty t with
 | some { d := .struct fs, .. } =>
  match fs[f]? with
  | some (o, _) =>
   (match x with
   | .ptr id off => some (.ptr id (off + o))
   | .ip cs => some (.ip (cs.drop o))
   | .iv cs => some (.iv (cs.drop o))
   | _ => none)
  | none => none
 | _ => none

def obound (d : Nat) : Option VV → Option Nat
 | none => some d
 | some v => idx v
def vslice (t : Nat) (x : VV) (lo hi : Option VV) : Option VV :=
 match T.ty t with
 | some { d := .slice _ ke _, .. } =>
  match x with
  | .bf id off m k =>
   (match obound m hi, obound 0 lo with
   | some h, some l => bif Nat.beq k ke && Nat.ble h m && Nat.ble l h then some (.bf id (off + l * ke) (h - l) k) else none
   | _, _ => none)
  | x =>
   match elemsOf x with
   | some (k, xs) =>
    (match obound xs.length hi, obound 0 lo with
    | some h, some l => bif fits k ke xs && Nat.ble h xs.length && Nat.ble l h then some (.p (.sl k ((xs.take h).drop l))) else none
    | _, _ => none)
   | none => none
 | some { d := .str, .. } =>
  match x with
  | .p (.str s) =>
   (match obound s.size hi, obound 0 lo with
   | some h, some l => bif Nat.ble h s.size && Nat.ble l h then some (.p (.str (s.extract l h))) else none
   | _, _ => none)
  | _ => none
 | _ => none

def vappendV (ke be : Nat) (s x : VV) (M : Mem) : Option (VV × Mem) :=
 match x with
 | .sv k ys => bif Nat.beq k ke && !ys.isEmpty then
   (match s with
   | .sw id k' xs =>
    match M.H[id]? with
    | some (.clm m k'') =>
     bif Nat.beq m xs.length && Nat.beq k'' ke && Nat.beq k' ke && Nat.ble ((xs.length + ys.length) * be) 140737488355328 then
      some (.sw id ke (xs ++ ys), { M with H := M.H.set id (.clm (m + ys.length) ke) }) else none
    | _ => none
   | _ => none) else none
 | _ => none
def vgrow (ke be : Nat) (s : VV) (ys : List (List VV)) (M : Mem) : Option (VV × Mem) :=
 bif !ys.isEmpty then
  match s with
  | .sf k xs => bif fits k ke xs && Nat.ble ((xs.length + ys.length) * be) 140737488355328 then some (.bf M.H.length 0 (xs.length + ys.length) ke, M.push (.obj (xs.flatten.map .p ++ ys.flatten))) else none
  | .bf id 0 n k => match M.H[id]? with
   | some (.obj cs) => bif Nat.beq k ke && Nat.blt 0 n && Nat.beq cs.length (n * ke) && Nat.ble ((n + ys.length) * be) 140737488355328 then
     some (.bf M.H.length 0 (n + ys.length) ke, { M with H := M.H.set id .gone ++ [.obj (cs ++ ys.flatten)] }) else none
   | _ => none
  | _ => none
 else none
def vappend (t : Nat) (s x : VV) (M : Mem) : Option (VV × Mem) :=
 match T.ty t, elemsOf x with
 | some { d := .slice _ ke be, .. }, some (k, ys) =>
  bif fits k ke ys then
   (match s with
   | .sf k' xs => bif ys.isEmpty && !xs.isEmpty && fits k' ke xs then some (.p (.sl ke xs), M) else bif fits k' ke xs && Nat.ble ((xs.length + ys.length) * be) 140737488355328 && (xs.isEmpty || !ys.isEmpty) then (bif T.own t && xs.isEmpty then some (.bf M.H.length 0 ys.length ke, M.push (.obj (ys.flatten.map .p))) else bif T.own t then vgrow ke be (.sf k' xs) (ys.map (List.map .p)) M else some (.so M.H.length ke (xs ++ ys), M.push (.clm (xs.length + ys.length) ke))) else none
   | .so id k' xs =>
    match M.H[id]? with
    | some (.clm m k'') =>
     bif Nat.beq m xs.length && Nat.beq k'' ke && Nat.beq k' ke && Nat.ble ((xs.length + ys.length) * be) 140737488355328 then
      some (.so id ke (xs ++ ys), { M with H := M.H.set id (.clm (m + ys.length) ke) }) else none
    | _ => none
   | .bf id off n k' => bif T.own t then vgrow ke be (.bf id off n k') (ys.map (List.map .p)) M else none
   | _ => none)
  else none
 | some { d := .slice _ ke be, .. }, none => (match x with
  | .sv k ys => bif T.own t then (bif Nat.beq k ke then vgrow ke be s ys M else none) else vappendV ke be s (.sv k ys) M
  | _ => none)
 | _, _ => none

def vlen (t : Nat) (x : VV) (M : Mem) : Option VV :=
 match T.ty t with
 | some { d := .slice .., .. } => match x with
  | .bf _ _ n _ => some (.p (.int .i64 n))
  | .sv _ xs => some (.p (.int .i64 xs.length))
  | .sw _ _ xs => some (.p (.int .i64 xs.length))
  | x => (elemsOf x).map fun e => .p (.int .i64 e.2.length)
 | some { d := .str, .. } => match x with
  | .p (.str s) => some (.p (.int .i64 s.size))
  | _ => none
 | some { d := .map .., .. } => match x with
  | .p .nilm => some (.p (.int .i64 0))
  | .mp id => match M.H[id]? with
   | some (.mpo _ es) => some (.p (.int .i64 es.length))
   | _ => none
  | _ => none
 | some { d := .arr n .., .. } => some (.p (.int .i64 n))
 | _ => none

def vext (mx : Bool) (x y : VV) : Option VV :=
 match x, y with
 | .p (.int k a), .p (.int _ b) => some (.p (.int k (bif mx then (bif decide (b > a) then b else a) else (bif decide (b < a) then b else a))))
 | _, _ => none
def vexts (mx : Bool) (x : VV) : List VV → Option VV
 | [] => some x
 | y :: r => match vext mx x y with
  | some z => vexts mx z r
  | none => none

def vmakeSlice (t : Nat) (l c : VV) (M : Mem) : Option (VV × Mem) :=
 match T.ty t, idx l, idx c with
 | some { d := .slice e ke be, .. }, some n, some m =>
  match T.ty e with
  | some y =>
   bif Nat.ble (m * be) 140737488355328 && Nat.ble m 9223372036854775807 then
    (bif Nat.beq n m then some (.bf M.H.length 0 n ke, M.push (.obj ((List.replicate n (y.zero.map ofValue)).flatten)))
    else bif Nat.beq n 0 then some (.so M.H.length ke [], M.push (.clm 0 ke)) else none)
   else none
  | none => none
 | _, _, _ => none

def cellInts : List VV → Option (List Int)
 | [] => some []
 | .p (.int .i64 n) :: r => (cellInts r).map (n :: ·)
 | _ => none
def keyOf (y : Ty) (v : VV) : Option (List Int) :=
 match v with
 | .p (.int k' n) => (match y.d with
  | .int k => if k = k' then some [n] else none
  | _ => none)
 | .agg cs => bif y.cmp && Nat.beq cs.length y.size then cellInts cs else none
 | _ => none
def shOf (y : Ty) : KSh := match y.d with
 | .int k => .int k
 | _ => .nums y.size
def zeroV (y : Ty) : Option VV := bif y.agg then some (.agg (y.zero.map ofValue)) else (match y.zero with | [z] => some (ofValue z) | _ => none)
def assoc (ks : List Int) : List (List Int × VV) → Option VV
 | [] => none
 | (k, v) :: r => bif decide (k = ks) then some v else assoc ks r
def assocSet (ks : List Int) (v : VV) : List (List Int × VV) → List (List Int × VV)
 | [] => [(ks, v)]
 | (k, u) :: r => bif decide (k = ks) then (ks, v) :: r else (k, u) :: assocSet ks v r

def vlookup (t : Nat) (x k : VV) (ok : Bool) (M : Mem) : Option VV :=
 match T.ty t with
 | some { d := .map kt e, .. } =>
  match T.ty kt, T.ty e with
  | some ky, some ey =>
   match keyOf ky k, zeroV ey with
   | some ks, some z =>
    (match (match x with
      | .p .nilm => some []
      | .mp id => match M.H[id]? with
       | some (.mpo sh es) => if sh = shOf ky then some es else none
       | _ => none
      | _ => none) with
    | some es => match assoc ks es with
     | some v => some (bif ok then .tup [v, .p (.bool true)] else v)
     | none => some (bif ok then .tup [z, .p (.bool false)] else z)
    | none => none)
   | _, _ => none
  | _, _ => none
 | _ => none

def vmapUpdate (t : Nat) (x k v : VV) (M : Mem) : Option Mem :=
 match T.ty t, x with
 | some { d := .map kt _, .. }, .mp id =>
  match T.ty kt with
  | some ky =>
   match keyOf ky k, M.H[id]? with
   | some ks, some (.mpo sh es) => if sh = shOf ky then some { H := M.H.set id (.mpo sh (assocSet ks v es)), lg := addLg id (refs v) M.lg } else none
   | _, _ => none
  | none => none
 | _, _ => none

def veqCells : List VV → List VV → Option Bool
 | [], [] => some true
 | .p (.int .i64 a) :: r, .p (.int .i64 b) :: s => (veqCells r s).map (decide (a = b) && ·)
 | _, _ => none

def vbin (op : BinOp) (t : Nat) (x y : VV) : Option VV :=
 match x, y with
 | .p (.int k a), .p (.int k' b) => (pureOf (Go.binOp op 0 (.int k a) (.int k' b))).map ofValue
 | .p (.str a), .p (.str b) => (pureOf (Op.stringOp op a b)).map ofValue
 | .p (.bool a), .p (.bool b) => match T.ty t, op with
  | some { d := .bool, .. }, .eql => some (.p (.bool (a == b)))
  | some { d := .bool, .. }, .neq => some (.p (.bool (!(a == b))))
  | _, _ => none
 | .agg xs, .agg ys => match T.ty t with
  | some ty => bif ty.cmp && Nat.beq xs.length ty.size && Nat.beq ys.length ty.size then
    (match op with
    | .eql => (veqCells xs ys).map fun b => .p (.bool b)
    | .neq => (veqCells xs ys).map fun b => .p (.bool (!b))
    | _ => none)
   else none
  | none => none
 | _, _ => none

def vbinK (op : BinOp) (t : Nat) (x y : VV) (o : Operand) : Option VV :=
 match x with
 | .p (.ifc b) => (match T.ty t, o, op with
  | some { d := .iface, .. }, .const .nilIface, .eql => some (.p (.bool b))
  | some { d := .iface, .. }, .const .nilIface, .neq => some (.p (.bool (!b)))
  | _, _, _ => none)
 | x => vbin T op t x y

def vun (op : UnOp) (x : VV) : Option VV :=
 match x with
 | .p (.int k a) => (pureOf (Op.unary op (.int k a))).map ofValue
 | .p (.bool b) => (pureOf (Op.unary op (.bool b))).map ofValue
 | _ => none

def vconvert (s d : Nat) (x : VV) : Option VV :=
 match T.ty s, T.ty d, x with
 | some _, some { d := .int k, .. }, .p (.int _ n) => (pureOf (Conv.intToInt k n)).map ofValue
 | some { d := .slice e _ _, .. }, some { d := .str, .. }, .sf _ [[.int .u8 n]] => (match T.ty e with
  | some { d := .int .u8, .. } => some (.p (.str ⟨#[UInt8.ofNat n.toNat]⟩))
  | _ => none)
 | _, _, _ => none

def placesOf (fs : List (Nat × Nat)) (i : Nat) : Option (Nat × Nat) := fs[i]?

def vbuild (t : Nat) (parts : List (Nat × VV)) : Option VV :=
 match T.ty t with
 | some { d := .struct fs, zero := z, .. } => (vfill (placesOf fs) (z.map ofValue) parts).map .agg
 | some { d := .arr _ _ ke, zero := z, .. } => (vfill (fun i => some (i * ke, ke)) (z.map ofValue) parts).map .agg
 | _ => none

def inOrder : Nat → List (Nat × VV) → Option (List VV)
 | _, [] => some []
 | i, (j, v) :: r => bif Nat.beq i j then (inOrder (i + 1) r).map (v :: ·) else none

def vbuildSlice (t len : Nat) (parts : List (Nat × VV)) : Option VV :=
 match T.ty t, inOrder 0 parts with
 | some { d := .slice _ ke _, .. }, some vs =>
  bif Nat.beq vs.length len && Nat.ble (len * ke) 16777216 && vs.all (fun v => Nat.beq (cellsOf v).length ke && (cellsOf v).all isCell) then
   (match toPss (vs.map cellsOf) with
   | some xs => some (.sf ke xs)
   | none => some (.sv ke (vs.map fun v => (cellsOf v).map strip1)))
  else none
 | _, _ => none

def vbuildOwn (t len : Nat) (parts : List (Nat × VV)) (M : Mem) : Option (VV × Mem) :=
 match T.ty t, inOrder 0 parts with
 | some { d := .slice _ ke _, .. }, some vs =>
  bif Nat.beq vs.length len && Nat.ble (len * ke) 16777216 && vs.all (fun v => Nat.beq (cellsOf v).length ke && (cellsOf v).all isCell) && Nat.ble 1 len then
   some (.bf M.H.length 0 len ke, M.push (.obj (vs.flatMap cellsOf)))
  else none
 | _, _ => none

def vindex (t : Nat) (x i : VV) : Option VV :=
 match T.ty t, idx i with
 | some { d := .str, .. }, some n => (match x with
  | .p (.str s) => match s[n]? with
   | some b => some (.p (.int .u8 b.toNat))
   | none => none
  | _ => none)
 | some { d := .arr m e ke, .. }, some n =>
  (match T.ty e, x with
  | some y, .agg cs => bif Nat.blt n m then (bif y.agg then some (.agg ((cs.drop (n * ke)).take ke)) else cs[n * ke]?) else none
  | _, _ => none)
 | _, _ => none

def vop (op : Go.Op) (ρ : Operand → VV) (M : Mem) : Option (VV × Mem) :=
 match op with
 | .move x => some (ρ x, M)
 | .assign x => some (ρ x, M)
 | .pick c a b => match ρ c with
  | .p (.bool t) => some (bif t then ρ a else ρ b, M)
  | _ => none
 | .alloc e => match T.ty e with
  | some y => some (.ptr M.H.length 0, M.push (.obj (y.zero.map ofValue)))
  | none => none
 | .box _ x => bif (cellsOf (ρ x)).all isCell then some (.ptr M.H.length 0, M.push (.obj (cellsOf (ρ x)))) else none
 | .build t parts => (vbuild T t (parts.toList.map fun p => (p.1, ρ p.2))).map (·, M)
 | .buildSlice t n parts => bif T.ownS t n then vbuildOwn T t n (parts.toList.map fun p => (p.1, ρ p.2)) M else (vbuildSlice T t n (parts.toList.map fun p => (p.1, ρ p.2))).map (·, M)
 | .load t a => (vload T t (ρ a) M).map (·, M)
 | .store t a x => (vstore T t (ρ a) (ρ x) M).map (.tup [], ·)
 | .nilCheck x => match ρ x with
  | .ptr id off => some (.ptr id off, M)
  | .ip cs => some (.ip cs, M)
  | .iv cs => some (.iv cs, M)
  | _ => none
 | .binOp op t x y _ => (vbinK T op t (ρ x) (ρ y) y).map (·, M)
 | .unOp op _ x => (vun op (ρ x)).map (·, M)
 | .convert s d x => (vconvert T s d (ρ x)).map (·, M)
 | .makeFunc f first caps => bif (first.toList.map ρ).all isCell && (caps.toList.map ρ).all isCell then some (.fn f (first.toList.map ρ) (caps.toList.map ρ), M) else none
 | .makeMap t none => match T.ty t with
  | some { d := .map kt _, .. } => match T.ty kt with
   | some ky => some (.mp M.H.length, M.push (.mpo (shOf ky) []))
   | none => none
  | _ => none
 | .makeSlice t l c => vmakeSlice T t (ρ l) (ρ c) M
 | .slice t x lo hi none => (vslice T t (ρ x) (lo.map ρ) (hi.map ρ)).map (·, M)
 | .fieldAddr t x f => (vfieldAddr T t (ρ x) f).map (·, M)
 | .indexAddr t x i => (vindexAddr T t (ρ x) (ρ i)).map (·, M)
 | .index t x i => (vindex T t (ρ x) (ρ i)).map (·, M)
 | .lookup t x k ok => (vlookup T t (ρ x) (ρ k) ok M).map (·, M)
 | .mapUpdate t m k v => (vmapUpdate T t (ρ m) (ρ k) (ρ v) M).map (.tup [], ·)
 | .extract t i => match ρ t with
  | .tup vs => (vs[i]?).map (·, M)
  | _ => none
 | .call { callee := .builtin .append, args := ⟨[s, x]⟩, argTypes := ⟨[t, t']⟩ } => if t = t' then vappend T t (ρ s) (ρ x) M else none
 | .call { callee := .builtin .len, args := ⟨[x]⟩, argTypes := ⟨[t]⟩ } => (vlen T t (ρ x) M).map (·, M)
 | .call { callee := .builtin .max, args := ⟨x :: r⟩, .. } => (vexts true (ρ x) (r.map ρ)).map (·, M)
 | .call { callee := .builtin .min, args := ⟨x :: r⟩, .. } => (vexts false (ρ x) (r.map ρ)).map (·, M)
 | _ => none
end ops
end Go.Proofs.YtnjgdlmddlinaaaDoor.Vm

/- What is known of the package-level variables where a run begins. (Vm) -/
namespace Go.Proofs.YtnjgdlmddlinaaaDoor.Vm
open Go
def LzG : List Nat := [0
 ]
def LzPow (f : Nat → Option Obj) : Prop := ∃ t z, f 0 = some (.cells (Lib.pow10Tab.map fun n => Value.int .u64 n).toArray t z)
def LzMax (f : Nat → Option Obj) : Prop := 
 True
def LzErr (f : Nat → Option Obj) : Prop := 
 True
def LzF (w : World) : Nat → Option Obj := fun g => if g ∈ LzG then w.heap[g]? else none
def Lz (B : Nat) (w0 : World) (Wr : Nat → Prop) : Prop := (∀ g ∈ LzG, g < B ∧ ¬ Wr g) ∧ LzPow (LzF w0) ∧ LzMax (LzF w0) ∧ LzErr (LzF w0)
theorem LzF_eq {w w' : World} (h : ∀ g ∈ LzG, w'.heap[g]? = w.heap[g]?) : LzF w' = LzF w := by
 funext g
 unfold LzF
 split
 ·rename_i hg
  exact h g hg
 ·rfl
theorem Lz.step {B : Nat} {w0 w : World} {Wr : Nat → Prop} (h : Lz B w0 Wr) (hs : B ≤ w.heap.size) (ho : ∀ b, b < B → ¬ Wr b → w.heap[b]? = w0.heap[b]?) : Lz w.heap.size w (fun _ => False) := by
 obtain ⟨h1, h2⟩ := h
 refine ⟨fun g hg => ⟨Nat.lt_of_lt_of_le (h1 g hg).1 hs, fun e => e⟩, ?_⟩
 rw [LzF_eq (fun g hg => ho g (h1 g hg).1 (h1 g hg).2)]
 exact h2
theorem Lz.at {B : Nat} {w0 w : World} {Wr : Nat → Prop} (h : Lz B w0 Wr) (ho : ∀ b, b < B → ¬ Wr b → w.heap[b]? = w0.heap[b]?) : LzPow (LzF w) ∧ LzMax (LzF w) ∧ LzErr (LzF w) := by
 obtain ⟨h1, h2⟩ := h
 rw [LzF_eq (fun g hg => ho g (h1 g hg).1 (h1 g hg).2)]
 exact h2
theorem LzF_some {w : World} {g : Nat} {o : Obj} (h : LzF w g = some o) : w.heap[g]? = some o := by
 unfold LzF at h
 split at h
 ·exact h
 ·cases h
end Go.Proofs.YtnjgdlmddlinaaaDoor.Vm

/- A machine on values: what values stand for in memory, and what stays so. -/
namespace Go.Proofs.YtnjgdlmddlinaaaDoor.Vm
open Go

def isOne : Value → Bool
 | .agg _ | .tuple _ => false
 | _ => true
def Fz : VObj → Prop
 | .dead | .gone => True
 | _ => False
def Im (K : Nat → Option Nat) (H : List VObj) (b o : Nat) : Prop := ∀ i ob, H[i]? = some ob → K i = some b → Fz ob ∨ ∃ m k, ob = .clm m k ∧ o < m * k
def Szp (w w' : World) : Prop := ∀ (b : Nat) (vs : Array Value) (t : TypeId) (z : Nat × Nat), w.heap[b]? = some (.cells vs t z) → ∃ vs' z', w'.heap[b]? = some (.cells vs' t z') ∧ vs'.size = vs.size
theorem Szp.refl (w : World) : Szp w w := fun _ vs _ z h => ⟨vs, z, h, rfl⟩
theorem Szp.trans {w w' w'' : World} (h : Szp w w') (h' : Szp w' w'') : Szp w w'' := fun b vs t z e => by
 obtain ⟨v1, z1, e1, s1⟩ := h b vs t z e
 obtain ⟨v2, z2, e2, s2⟩ := h' b v1 t z1 e1
 exact ⟨v2, z2, e2, s2.trans s1⟩
theorem Szp.of_old {w w' : World} (hb : ∀ b, b < w.heap.size → w'.heap[b]? = w.heap[b]?) : Szp w w' := fun b vs t z e =>
 ⟨vs, z, (hb b (Array.getElem?_eq_some_iff.1 e).1).trans e, rfl⟩
theorem Szp.of_one {w w' : World} {b0 : Nat} (hb : ∀ b, b < w.heap.size → b ≠ b0 → w'.heap[b]? = w.heap[b]?) (h0 : ∀ (vs : Array Value) (t : TypeId) (z : Nat × Nat), w.heap[b0]? = some (.cells vs t z) → ∃ vs', w'.heap[b0]? = some (.cells vs' t z) ∧ vs'.size = vs.size) : Szp w w' := fun b vs t z e => by
 by_cases h : b = b0
 ·subst h
  obtain ⟨vs', e', s'⟩ := h0 vs t z e
  exact ⟨vs', z, e', s'⟩
 ·exact ⟨vs, z, (hb b (Array.getElem?_eq_some_iff.1 e).1 h).trans e, rfl⟩
def Cap (w : World) (b x : Nat) : Prop := ∃ vs t z, w.heap[b]? = some (.cells vs t z) ∧ x ≤ vs.size
theorem Cap.sz {w w' : World} {b x : Nat} (h : Cap w b x) (hz : Szp w w') : Cap w' b x := by
 obtain ⟨vs, t, z, e, hx⟩ := h
 obtain ⟨v2, z2, e2, s2⟩ := hz b vs t z e
 exact ⟨v2, t, z2, e2, by omega⟩

inductive RepP (w : World) (I : Nat → Nat → Prop) : Value → PV → Prop
 | int (k : IntKind) (n : Int) : RepP w I (.int k n) (.int k n)
 | bool (b : Bool) : RepP w I (.bool b) (.bool b)
 | str (s : ByteArray) : RepP w I (.string s) (.str s)
 | nilp : RepP w I (.pointer none) .nilp
 | nilm : RepP w I (.map none) .nilm
 | nilf : RepP w I .nilFunc .nilf
 | ifn : RepP w I .nilIface (.ifc true)
 | ifs (t : TypeId) (v : Value) : RepP w I (.iface t v) (.ifc false)
 | sl (A : Option Addr) (c k b off : Nat) (xs : List (List PV)) (f : Nat → Nat → Value) (hc : xs.length ≤ c) (hm : c ≤ maxLen) (hk : ∀ x ∈ xs, x.length = k) (hA : xs ≠ [] → A = some ⟨b, off, none⟩)
   (hi : ∀ i x j u, xs[i]? = some x → x[j]? = some u → I b (off + i * k + j))
   (hw : ∀ i x j u, xs[i]? = some x → x[j]? = some u → w.cell? ⟨b, off + i * k + j, none⟩ = some (f i j))
   (hr : ∀ i x j u, xs[i]? = some x → x[j]? = some u → RepP w I (f i j) u) : RepP w I (.slice A xs.length c) (.sl k xs)

def TI (w : World) (K : Nat → Option Nat) (H : List VObj) (id k : Nat) (v : Value) (n : Nat) : Prop :=
 ∀ m k', H[id]? = some (.clm m k') → n ≤ m ∧ (m = n → k' = k ∧ ((∃ b c vs t, K id = some b ∧ v = .slice (some ⟨b, 0, none⟩) n c ∧ w.heap[b]? = some (.cells vs t (0, 0)) ∧ c * k ≤ vs.size) ∨ (K id = none ∧ n = 0 ∧ ∃ A, v = .slice A n n)))

inductive RepV (w : World) (K : Nat → Option Nat) (H : List VObj) : Value → VV → Prop
 | p (v : Value) (x : PV) (h : RepP w (Im K H) v x) : RepV w K H v (.p x)
 | any (v : Value) : RepV w K H v .any
 | agg (vs : Array Value) (cs : List VV) (hs : vs.size = cs.length) (h1 : ∀ (i : Nat) (v : Value), vs[i]? = some v → isOne v = true) (h : ∀ (i : Nat) (v : Value) (c : VV), vs[i]? = some v → cs[i]? = some c → RepV w K H v c) : RepV w K H (.agg vs) (.agg cs)
 | tup (vs : Array Value) (cs : List VV) (hs : vs.size = cs.length) (h : ∀ (i : Nat) (v : Value) (c : VV), vs[i]? = some v → cs[i]? = some c → RepV w K H v c) : RepV w K H (.tuple vs) (.tup cs)
 | so (v : Value) (id k : Nat) (xs : List (List PV)) (h : RepP w (Im K H) v (.sl k xs)) (ht : TI w K H id k v xs.length) : RepV w K H v (.so id k xs)
 | sf (A : Option Addr) (k : Nat) (xs : List (List PV)) (h : RepP w (Im K H) (.slice A xs.length xs.length) (.sl k xs)) : RepV w K H (.slice A xs.length xs.length) (.sf k xs)
 | ptr (id off b : Nat) (h : K id = some b) (hn : ∀ m k, H[id]? ≠ some (.clm m k)) : RepV w K H (.pointer (some ⟨b, off, none⟩)) (.ptr id off)
 | ip (cs : List PV) (b off : Nat) (f : Nat → Value) (hi : ∀ j u, cs[j]? = some u → Im K H b (off + j)) (hw : ∀ j u, cs[j]? = some u → w.cell? ⟨b, off + j, none⟩ = some (f j))
   (hr : ∀ j u, cs[j]? = some u → RepP w (Im K H) (f j) u) : RepV w K H (.pointer (some ⟨b, off, none⟩)) (.ip cs)
 | iv (cs : List VV) (b off : Nat) (f : Nat → Value) (hi : ∀ j u, cs[j]? = some u → Im K H b (off + j)) (hw : ∀ j u, cs[j]? = some u → w.cell? ⟨b, off + j, none⟩ = some (f j))
   (hr : ∀ j u, cs[j]? = some u → RepV w K H (f j) u) (h1 : ∀ j u, cs[j]? = some u → isOne (f j) = true) : RepV w K H (.pointer (some ⟨b, off, none⟩)) (.iv cs)
 | bf (id off n k b c : Nat) (A : Option Addr) (h : n ≠ 0 → K id = some b) (hn : ∀ m k, H[id]? ≠ some (.clm m k)) (hc : n ≤ c) (hm : c ≤ maxLen) (hA : n ≠ 0 → A = some ⟨b, off, none⟩) (hz : n ≠ 0 → Cap w b (off + c * k)) : RepV w K H (.slice A n c) (.bf id off n k)
 | mp (id b : Nat) (h : K id = some b) (hn : ∀ m k, H[id]? ≠ some (.clm m k)) : RepV w K H (.map (some b)) (.mp id)
 | fn (f : Fn) (us vs : Array Value) (as bs : List VV) (hs : us.size = as.length) (ht : vs.size = bs.length) (h : ∀ (i : Nat) (v : Value) (c : VV), us[i]? = some v → as[i]? = some c → RepV w K H v c)
   (h' : ∀ (i : Nat) (v : Value) (c : VV), vs[i]? = some v → bs[i]? = some c → RepV w K H v c) : RepV w K H (.func f us vs) (.fn f as bs)
 | sv (A : Option Addr) (c k b off : Nat) (xs : List (List VV)) (f : Nat → Nat → Value) (hc : xs.length ≤ c) (hm : c ≤ maxLen) (hk : ∀ x ∈ xs, x.length = k) (hA : xs ≠ [] → A = some ⟨b, off, none⟩)
   (hi : ∀ i x j u, xs[i]? = some x → x[j]? = some u → Im K H b (off + i * k + j))
   (hw : ∀ i x j u, xs[i]? = some x → x[j]? = some u → w.cell? ⟨b, off + i * k + j, none⟩ = some (f i j))
   (hr : ∀ i x j u, xs[i]? = some x → x[j]? = some u → RepV w K H (f i j) u) (h1 : ∀ i x j u, xs[i]? = some x → x[j]? = some u → isOne (f i j) = true) : RepV w K H (.slice A xs.length c) (.sv k xs)
 | sw (v : Value) (id k : Nat) (xs : List (List VV)) (h : RepV w K H v (.sv k xs)) (ht : TI w K H id k v xs.length) : RepV w K H v (.sw id k xs)
 | yl (id b : Nat) (h : K id = some b) (hn : ∀ m k, H[id]? ≠ some (.clm m k)) : RepV w K H (.func (.yield b) #[] #[]) (.yl id)

def ObjLe (w : World) (K : Nat → Option Nat) (w' : World) (K' : Nat → Option Nat) (i : Nat) : VObj → VObj → Prop
 | .clm m k, o' => ∃ m', o' = .clm m' k ∧ m ≤ m' ∧ (m' = m → K' i = K i ∧ ∀ b, K i = some b → w'.heap[b]? = w.heap[b]?)
 | .dead, o' => o' = .dead ∧ K' i = K i ∧ ∀ b, K i = some b → w'.heap[b]? = w.heap[b]?
 | .dfr, o' => o' = .dfr ∧ K' i = K i
 | .lp _, o' => (∃ L', o' = .lp L') ∧ K' i = K i
 | _, o' => (∀ m k, o' ≠ .clm m k) ∧ K' i = K i
structure Ext (w : World) (K : Nat → Option Nat) (H : List VObj) (w' : World) (K' : Nat → Option Nat) (H' : List VObj) : Prop where
 size : w.heap.size ≤ w'.heap.size
 sz : Szp w w'
 im : ∀ b o, b < w.heap.size → Im K H b o → Im K' H' b o
 cell : ∀ b o, b < w.heap.size → Im K H b o → w'.cell? ⟨b, o, none⟩ = w.cell? ⟨b, o, none⟩
 obj : ∀ i o, H[i]? = some o → ∃ o', H'[i]? = some o' ∧ ObjLe w K w' K' i o o'

theorem cell_lt {w : World} {b o : Nat} {v : Value} (h : w.cell? ⟨b, o, none⟩ = some v) : b < w.heap.size := by
 unfold World.cell? at h
 simp only at h
 rcases Nat.lt_or_ge b w.heap.size with hlt | hge
 ·exact hlt
 ·rw [Array.getElem?_eq_none hge] at h
  cases h
theorem RepP.ext {w w' : World} {I I' : Nat → Nat → Prop} {v : Value} {x : PV} (h : RepP w I v x) (hI : ∀ b o, b < w.heap.size → I b o → I' b o ∧ w'.cell? ⟨b, o, none⟩ = w.cell? ⟨b, o, none⟩) : RepP w' I' v x := by
 induction h with
 | int k n => exact .int k n
 | bool b => exact .bool b
 | str s => exact .str s
 | nilp => exact .nilp
 | nilm => exact .nilm
 | nilf => exact .nilf
 | ifn => exact .ifn
 | ifs t v => exact .ifs t v
 | sl A c k b off xs f hc hm hk hA hi hw hr ih =>
  exact .sl A c k b off xs f hc hm hk hA (fun i x j u h1 h2 => (hI _ _ (cell_lt (hw i x j u h1 h2)) (hi i x j u h1 h2)).1)
   (fun i x j u h1 h2 => (hI _ _ (cell_lt (hw i x j u h1 h2)) (hi i x j u h1 h2)).2.trans (hw i x j u h1 h2)) ih

mutual
theorem refs_agg_aux (r : Nat) : ∀ cs : List VV, r ∈ refsL cs ↔ ∃ c ∈ cs, r ∈ refs c
 | [] => by simp [refsL]
 | c :: cs => by rw [refsL, List.mem_append, refs_agg_aux r cs]; simp
end
theorem mem_refsL {r : Nat} {cs : List VV} : r ∈ refsL cs ↔ ∃ c ∈ cs, r ∈ refs c := refs_agg_aux r cs
theorem mem_refsLL {r : Nat} : ∀ {cs : List (List VV)}, r ∈ refsLL cs ↔ ∃ c ∈ cs, r ∈ refsL c
 | [] => by simp [refsLL]
 | c :: cs => by rw [refsLL, List.mem_append, mem_refsLL]; simp
theorem refsL_get {cs : List VV} {i : Nat} {c : VV} (h : cs[i]? = some c) {r : Nat} (hr : r ∈ refs c) : r ∈ refsL cs := mem_refsL.2 ⟨c, List.mem_of_getElem? h, hr⟩
theorem refsLL_get {xs : List (List VV)} {i j : Nat} {x : List VV} {u : VV} (h : xs[i]? = some x) (h' : x[j]? = some u) {r : Nat} (hr : r ∈ refs u) : r ∈ refsLL xs := mem_refsLL.2 ⟨x, List.mem_of_getElem? h, refsL_get h' hr⟩

def Cl (n : Nat) (v : VV) : Prop := ∀ r ∈ refs v, r < n
theorem Cl.mono {n m : Nat} {v : VV} (h : Cl n v) (hn : n ≤ m) : Cl m v := fun r hr => Nat.lt_of_lt_of_le (h r hr) hn

section
variable {w w' : World} {K K' : Nat → Option Nat} {H H' : List VObj}
theorem Ext.refl (w : World) (K : Nat → Option Nat) (H : List VObj) : Ext w K H w K H :=
 ⟨Nat.le_refl _, Szp.refl _, fun _ _ _ h => h, fun _ _ _ _ => rfl, fun i o h => ⟨o, h, by
  cases o <;> first | exact ⟨_, rfl, Nat.le_refl _, fun _ => ⟨rfl, fun _ _ => rfl⟩⟩ | exact ⟨rfl, rfl, fun _ _ => rfl⟩ | exact ⟨rfl, rfl⟩ | exact ⟨⟨_, rfl⟩, rfl⟩ | exact ⟨fun _ _ e => VObj.noConfusion e, rfl⟩⟩⟩
theorem Ext.len (h : Ext w K H w' K' H') : H.length ≤ H'.length := by
 rcases Nat.eq_zero_or_pos H.length with h0 | h0
 ·omega
 ·obtain ⟨o', ho, _⟩ := h.obj (H.length - 1) (H[H.length - 1]'(by omega)) (List.getElem?_eq_getElem _)
  have := (List.getElem?_eq_some_iff.1 ho).1
  omega
theorem Ext.trans {w'' : World} {K'' : Nat → Option Nat} {H'' : List VObj} (h : Ext w K H w' K' H') (h' : Ext w' K' H' w'' K'' H'') : Ext w K H w'' K'' H'' :=
 ⟨Nat.le_trans h.size h'.size, h.sz.trans h'.sz, fun b o hb hi => h'.im b o (Nat.lt_of_lt_of_le hb h.size) (h.im b o hb hi),
  fun b o hb hi => (h'.cell b o (Nat.lt_of_lt_of_le hb h.size) (h.im b o hb hi)).trans (h.cell b o hb hi),
  fun i o ho => by
  obtain ⟨o1, h1, l1⟩ := h.obj i o ho
  obtain ⟨o2, h2, l2⟩ := h'.obj i o1 h1
  refine ⟨o2, h2, ?_⟩
  cases o with
  | clm m k =>
   obtain ⟨m1, rfl, hm1, e1⟩ := l1
   obtain ⟨m2, rfl, hm2, e2⟩ := l2
   refine ⟨m2, rfl, Nat.le_trans hm1 hm2, fun e => ?_⟩
   obtain ⟨a1, a2⟩ := e1 (by omega)
   obtain ⟨b1, b2⟩ := e2 (by omega)
   exact ⟨b1.trans a1, fun b hb => (b2 b (a1.trans hb)).trans (a2 b hb)⟩
  | dead =>
   obtain ⟨rfl, a1, a2⟩ := l1
   obtain ⟨rfl, b1, b2⟩ := l2
   exact ⟨rfl, b1.trans a1, fun b hb => (b2 b (a1.trans hb)).trans (a2 b hb)⟩
  | dfr =>
   obtain ⟨rfl, a1⟩ := l1
   obtain ⟨rfl, b1⟩ := l2
   exact ⟨rfl, b1.trans a1⟩
  | lp L =>
   obtain ⟨⟨L1, rfl⟩, a1⟩ := l1
   obtain ⟨⟨L2, rfl⟩, b1⟩ := l2
   exact ⟨⟨L2, rfl⟩, b1.trans a1⟩
  | _ =>
   obtain ⟨n1, e1⟩ := l1
   cases o1 with
   | clm m k => exact absurd rfl (n1 m k)
   | dead =>
    obtain ⟨rfl, b1, _⟩ := l2
    exact ⟨fun _ _ e => VObj.noConfusion e, b1.trans e1⟩
   | dfr =>
    obtain ⟨rfl, b1⟩ := l2
    exact ⟨fun _ _ e => VObj.noConfusion e, b1.trans e1⟩
   | lp L =>
    obtain ⟨⟨L2, rfl⟩, b1⟩ := l2
    exact ⟨fun _ _ e => VObj.noConfusion e, b1.trans e1⟩
   | _ =>
    obtain ⟨n2, e2⟩ := l2
    exact ⟨n2, e2.trans e1⟩⟩
theorem RepP.of_ext {v : Value} {x : PV} (h : RepP w (Im K H) v x) (he : Ext w K H w' K' H') : RepP w' (Im K' H') v x :=
 h.ext fun b o hb hi => ⟨he.im b o hb hi, he.cell b o hb hi⟩
theorem Ext.key (he : Ext w K H w' K' H') {i : Nat} (hi : i < H.length) (hn : ∀ m k, H[i]? ≠ some (.clm m k)) : K' i = K i := by
 obtain ⟨o', _, hl⟩ := he.obj i H[i] (List.getElem?_eq_getElem hi)
 generalize ho : H[i] = o at hl
 have hh : H[i]? = some o := by rw [List.getElem?_eq_getElem hi, ho]
 cases o with
 | clm m k => exact absurd hh (hn m k)
 | dead => exact hl.2.1
 | _ => exact hl.2
theorem TI.of_ext {id k n : Nat} {v : Value} (h : TI w K H id k v n) (he : Ext w K H w' K' H') (hi : id < H.length) : TI w' K' H' id k v n := by
 intro m' k' hm'
 obtain ⟨o', ho', hl⟩ := he.obj id H[id] (List.getElem?_eq_getElem hi)
 rw [hm'] at ho'
 cases ho'
 generalize ho : H[id] = o at hl
 have hh : H[id]? = some o := by rw [List.getElem?_eq_getElem hi, ho]
 cases o with
 | clm m k0 =>
  obtain ⟨m1, e, hm, hl⟩ := hl
  injection e with e1 e2
  subst e1 e2
  obtain ⟨h1, h2⟩ := h m _ hh
  refine ⟨by omega, fun e => ?_⟩
  obtain ⟨e1, e2⟩ := hl (by omega)
  obtain ⟨rfl, h3⟩ := h2 (by omega)
  refine ⟨rfl, ?_⟩
  rcases h3 with ⟨b, c, vs, t, hb, hv, hw, hc⟩ | ⟨hb, hv⟩
  ·exact .inl ⟨b, c, vs, t, e1.trans hb, hv, (e2 b hb).trans hw, hc⟩
  ·exact .inr ⟨e1.trans hb, hv⟩
 | dead => obtain ⟨e, _⟩ := hl; cases e
 | dfr => obtain ⟨e, _⟩ := hl; cases e
 | lp L => obtain ⟨⟨_, e⟩, _⟩ := hl; cases e
 | _ => exact absurd rfl (hl.1 m' k')

theorem Ext.notClm (he : Ext w K H w' K' H') {i : Nat} (hi : i < H.length) (hn : ∀ m k, H[i]? ≠ some (.clm m k)) : ∀ m k, H'[i]? ≠ some (.clm m k) := by
 intro m k hm
 obtain ⟨o', ho', hl⟩ := he.obj i H[i] (List.getElem?_eq_getElem hi)
 rw [hm] at ho'
 cases ho'
 generalize ho : H[i] = o at hl
 have hh : H[i]? = some o := by rw [List.getElem?_eq_getElem hi, ho]
 cases o with
 | clm m0 k0 => exact hn m0 k0 hh
 | dead => obtain ⟨e, _⟩ := hl; cases e
 | dfr => obtain ⟨e, _⟩ := hl; cases e
 | lp L => obtain ⟨⟨_, e⟩, _⟩ := hl; cases e
 | _ => exact hl.1 m k rfl
theorem RepV.ext {v : Value} {x : VV} (h : RepV w K H v x) (he : Ext w K H w' K' H') (hc : Cl H.length x) : RepV w' K' H' v x := by
 induction h with
 | p v x h => exact .p v x (h.of_ext he)
 | any v => exact .any v
 | agg vs cs hs h1 h ih => exact .agg vs cs hs h1 fun i v c a b => ih i v c a b fun r hr => hc r (by rw [refs]; exact refsL_get b hr)
 | tup vs cs hs h ih => exact .tup vs cs hs fun i v c a b => ih i v c a b fun r hr => hc r (by rw [refs]; exact refsL_get b hr)
 | so v id k xs h ht => exact .so v id k xs (h.of_ext he) (ht.of_ext he (hc id (by simp [refs])))
 | sf A k xs h => exact .sf A k xs (h.of_ext he)
 | ptr id off b h hn => exact .ptr id off b ((he.key (hc id (by simp [refs])) hn).trans h) (he.notClm (hc id (by simp [refs])) hn)
 | ip cs b off f hi hw hr =>
  exact .ip cs b off f (fun j u a => he.im _ _ (cell_lt (hw j u a)) (hi j u a)) (fun j u a => (he.cell _ _ (cell_lt (hw j u a)) (hi j u a)).trans (hw j u a)) fun j u a => (hr j u a).of_ext he
 | iv cs b off f hi hw hr h1 ih =>
  exact .iv cs b off f (fun j u a => he.im _ _ (cell_lt (hw j u a)) (hi j u a)) (fun j u a => (he.cell _ _ (cell_lt (hw j u a)) (hi j u a)).trans (hw j u a))
   (fun j u a => ih j u a fun r hr => hc r (by rw [refs]; exact refsL_get a hr)) h1
 | bf id off n k b c A h hn h2 hm hA hz => exact .bf id off n k b c A (fun hne => (he.key (hc id (by simp [refs])) hn).trans (h hne)) (he.notClm (hc id (by simp [refs])) hn) h2 hm hA fun hne => (hz hne).sz he.sz
 | mp id b h hn => exact .mp id b ((he.key (hc id (by simp [refs])) hn).trans h) (he.notClm (hc id (by simp [refs])) hn)
 | fn f us vs as bs hs ht h h' ih ih' =>
  exact .fn f us vs as bs hs ht (fun i v c a b => ih i v c a b fun r hr => hc r (by rw [refs, List.mem_append]; exact .inl (refsL_get b hr)))
   fun i v c a b => ih' i v c a b fun r hr => hc r (by rw [refs, List.mem_append]; exact .inr (refsL_get b hr))
 | sv A c k b off xs f hcc hm hk hA hi hw hr h1 ih =>
  exact .sv A c k b off xs f hcc hm hk hA (fun i x j u h1 h2 => he.im _ _ (cell_lt (hw i x j u h1 h2)) (hi i x j u h1 h2))
   (fun i x j u h1 h2 => (he.cell _ _ (cell_lt (hw i x j u h1 h2)) (hi i x j u h1 h2)).trans (hw i x j u h1 h2))
   (fun i x j u a a' => ih i x j u a a' fun r hr => hc r (by rw [refs]; exact refsLL_get a a' hr)) h1
 | sw v id k xs h ht ih => exact .sw v id k xs (ih fun r hr => hc r (by simp only [refs] at hr; simp only [refs, List.mem_cons]; exact .inr hr)) (ht.of_ext he (hc id (by simp [refs])))
 | yl id b h hn => exact .yl id b ((he.key (hc id (by simp [refs])) hn).trans h) (he.notClm (hc id (by simp [refs])) hn)
end

/-! ### objects, and the whole -/
def contents : VObj → List VV
 | .obj cs => cs
 | .mpo _ es => es.map (·.2)
 | .lp l => l.tm.map (·.2)
 | .bld _ _ j l => [.so j 1 (bysV l)]
 | _ => []
def keyVal : KSh → List Int → Value
 | .int k, [n] => .int k n
 | _, ns => .agg (ns.map (Value.int .i64)).toArray
def KSh.len : KSh → Nat
 | .int _ => 1
 | .nums n => n

def Stm (ents : Array MapEntry) (clock : Nat) : Prop := (∀ x ∈ ents.toList, x.born < clock) ∧ (ents.toList.map (·.born)).Nodup
def Typ (w : World) (g e c : Nat) : Prop := ∃ vs z, w.heap[g]? = some (.cells vs e z) ∧ vs.size = c
theorem Typ.sz {w w' : World} {g e c : Nat} (h : Typ w g e c) (hz : Szp w w') : Typ w' g e c := by
 obtain ⟨vs, z, e1, hs⟩ := h
 obtain ⟨v2, z2, e2, s2⟩ := hz g vs e z e1
 exact ⟨v2, z2, e2, s2.trans hs⟩
def BufOk (w : World) (tE : Nat) (v : Value) : Prop := v = .slice none 0 0 ∨ ∃ g n c, v = .slice (some ⟨g, 0, none⟩) n c ∧ n ≠ 0 ∧ Typ w g tE c
theorem BufOk.sz {w w' : World} {tE : Nat} {v : Value} (h : BufOk w tE v) (hz : Szp w w') : BufOk w' tE v := by
 rcases h with h | ⟨g, n, c, h, hn, ht⟩
 ·exact .inl h
 ·exact .inr ⟨g, n, c, h, hn, ht.sz hz⟩
def ObjOk (w : World) (K : Nat → Option Nat) (H : List VObj) (kb : Option Nat) : VObj → Prop
 | .obj cs => ∀ b, kb = some b → ∃ vs t, w.heap[b]? = some (.cells vs t (0, 0)) ∧ cs.length ≤ vs.size ∧ ∀ (i : Nat) (v : Value) (c : VV), vs[i]? = some v → cs[i]? = some c → RepV w K H v c ∧ isOne v = true
 | .clm m k => ∀ b, kb = some b → ∃ vs t, w.heap[b]? = some (.cells vs t (0, 0)) ∧ m * k ≤ vs.size
 | .mpo sh es => ∃ b ents clock, kb = some b ∧ w.heap[b]? = some (.map ents clock) ∧ ents.size = es.length ∧ Stm ents clock ∧ ∀ (i : Nat) (e : MapEntry) (ks : List Int) (v : VV), ents[i]? = some e → es[i]? = some (ks, v) → e.key = keyVal sh ks ∧ ks.length = sh.len ∧ RepV w K H e.val v
 | .lp l => ∃ b L d, kb = some b ∧ w.heap[b]? = some (.loop L) ∧ L.state = l.st ∧ L.pending = l.pend ∧ True ∧ L.params.toList = l.params ∧ L.assign = l.assign ∧ L.body = l.body ∧ K l.dfr = some d ∧ (∀ m k, H[l.dfr]? ≠ some (.clm m k)) ∧ l.dfr < H.length ∧ L.defers = d ∧ L.tmps.size = l.nt ∧
   ∀ t, RepV w K H (L.tmps.getD t undef) (get l.tm t)
 | .dfr => ∃ b, kb = some b ∧ w.heap[b]? = some (.deferred (some []))
 | .dead => True
 | .gone => True
 | .bld tB tE j l => ∃ b v p, kb = some b ∧ w.heap[b]? = some (.cells #[p, v] tB (0, 0)) ∧ (p = .pointer none ∨ p = .pointer (some ⟨b, 0, none⟩)) ∧ RepV w K H v (.so j 1 (bysV l)) ∧ BufOk w tE v

structure Ghost where
 B : Nat
 w0 : World
 Wr : Nat → Prop
 lz : Lz B w0 Wr
structure Inv (G : Ghost) (w : World) (K : Nat → Option Nat) (M : Mem) : Prop where
 os : w.os = G.w0.os
 tape : w.tape = G.w0.tape
 output : w.output = G.w0.output
 size : G.w0.heap.size ≤ w.heap.size
 gB : G.B ≤ w.heap.size
 old : ∀ b, b < G.B → ¬ G.Wr b → w.heap[b]? = G.w0.heap[b]?
 inj : ∀ i j b, i < M.H.length → j < M.H.length → M.H[i]? ≠ some .gone → M.H[j]? ≠ some .gone → K i = some b → K j = some b → i = j
 blk : ∀ i b, i < M.H.length → K i = some b → b < w.heap.size ∧ (G.B ≤ b ∨ G.Wr b)
 obj : ∀ i o, M.H[i]? = some o → ObjOk w K M.H (K i) o
 cl : ∀ i o, M.H[i]? = some o → ∀ c ∈ contents o, ∀ r ∈ refs c, r < M.H.length ∧ (r ≤ i ∨ (i, r) ∈ M.lg)
 lg : ∀ e ∈ M.lg, e.1 < M.H.length ∧ e.2 < M.H.length
 lpd : ∀ (i : Nat) (L : LoopV), M.H[i]? = some (.lp L) → L.dfr < i

theorem get_mem {e : Env} {t : Nat} : get e t = .any ∨ ∃ k, (k, get e t) ∈ e := by
 induction e with
 | nil => exact .inl rfl
 | cons p e ih =>
  obtain ⟨k, v⟩ := p
  rw [get]
  cases Nat.beq t k
  ·rcases ih with h | ⟨k', h⟩
   ·exact .inl h
   ·exact .inr ⟨k', List.mem_cons_of_mem _ h⟩
  ·exact .inr ⟨k, List.mem_cons_self ..⟩
theorem cl_any (n : Nat) : Cl n .any := fun r hr => by simp [refs] at hr
theorem cl_get {n : Nat} {e : Env} (h : ∀ c ∈ e.map (·.2), Cl n c) (t : Nat) : Cl n (get e t) := by
 rcases get_mem (e := e) (t := t) with h1 | ⟨k, h1⟩
 ·rw [h1]; exact cl_any n
 ·exact h _ (List.mem_map.2 ⟨_, h1, rfl⟩)
theorem ObjOk.ext0 {w w' : World} {K K' : Nat → Option Nat} {H H' : List VObj} {kb : Option Nat} {o : VObj} (h : ObjOk w K H kb o) (he : Ext w K H w' K' H') (hb : ∀ b, kb = some b → w'.heap[b]? = w.heap[b]?)
  (hc : ∀ c ∈ contents o, Cl H.length c) : ObjOk w' K' H' kb o := by
 cases o with
 | obj cs =>
  intro b e
  obtain ⟨vs, t, h1, h2, h3⟩ := h b e
  exact ⟨vs, t, (hb b e).trans h1, h2, fun i v c a b => ⟨(h3 i v c a b).1.ext he (hc c (List.mem_of_getElem? b)), (h3 i v c a b).2⟩⟩
 | clm m k =>
  intro b e
  obtain ⟨vs, t, h1, h2⟩ := h b e
  exact ⟨vs, t, (hb b e).trans h1, h2⟩
 | mpo sh es =>
  obtain ⟨b, ents, clock, e, h1, h2, hst, h3⟩ := h
  refine ⟨b, ents, clock, e, (hb b e).trans h1, h2, hst, fun i x ks v a b => ?_⟩
  obtain ⟨p, q, r⟩ := h3 i x ks v a b
  exact ⟨p, q, r.ext he (hc v (List.mem_map.2 ⟨(ks, v), List.mem_of_getElem? b, rfl⟩))⟩
 | lp l =>
  obtain ⟨b, L, d, e, h1, a1, a2, a3, a4, a5, a6, a7, a8, a9, a10, a11, h3⟩ := h
  exact ⟨b, L, d, e, (hb b e).trans h1, a1, a2, a3, a4, a5, a6, (he.key a9 a8).trans a7, he.notClm a9 a8, Nat.lt_of_lt_of_le a9 he.len, a10, a11, fun t => (h3 t).ext he (cl_get hc t)⟩
 | dfr =>
  obtain ⟨b, e, h1⟩ := h
  exact ⟨b, e, (hb b e).trans h1⟩
 | dead => exact trivial
 | gone => exact trivial
 | bld tB tE j l =>
  obtain ⟨b, v, p, e, h1, h2, h3, h4⟩ := h
  exact ⟨b, v, p, e, (hb b e).trans h1, h2, h3.ext he (hc _ (List.mem_singleton.2 rfl)), h4.sz he.sz⟩
theorem ObjOk.ext {w w' : World} {K K' : Nat → Option Nat} {H H' : List VObj} {kb : Option Nat} {o : VObj} (h : ObjOk w K H kb o) (he : Ext w K H w' K' H') (hb : ∀ b, kb = some b → w'.heap[b]? = w.heap[b]?)
  (hc : ∀ c ∈ contents o, Cl H.length c) : ObjOk w' K' H' kb o := h.ext0 he hb hc
theorem ObjOk.extg {w w' : World} {K K' : Nat → Option Nat} {H H' : List VObj} {kb : Option Nat} {o : VObj} (h : ObjOk w K H kb o) (he : Ext w K H w' K' H') (hb : o ≠ .gone → ∀ b, kb = some b → w'.heap[b]? = w.heap[b]?)
  (hc : ∀ c ∈ contents o, Cl H.length c) : ObjOk w' K' H' kb o := by
 by_cases hg : o = .gone
 ·subst hg
  exact trivial
 ·exact h.ext0 he (hb hg) hc
end Go.Proofs.YtnjgdlmddlinaaaDoor.Vm
