/- A part of the proofs about the chapter of the doors; it states no condition of its own. -/
import Derived.OrdersIn
import Derived.RangeFuncLeaves
import Derived.RangeFuncIn
import Derived.RangeFuncCalls
import Derived.KernelRfl
import Derived.WalkKit
set_option linter.unusedVariables false
set_option linter.unusedSimpArgs false
/- A machine on values, its data and its operations: what an operation does to values, to objects, whatever the order, the capacities and the block numbers are. Nothing here names the program. -/
namespace Go.Proofs.Ytmagiabapakhcaa.Vm

/-- pure data -/
inductive PV where
  | int (k : IntKind) (n : Int)
  | bool (b : Bool)
  | str (s : ByteArray)
  | nilp
  | nilm
  | nilf
  | sl (k : Nat) (xs : List (List PV))

/-- values of a run -/
inductive VV where
  | p (v : PV)
  | any
  | agg (cs : List VV)
  | tup (vs : List VV)
  | so (id k : Nat) (xs : List (List PV))
  | sf (k : Nat) (xs : List (List PV))
  | ptr (id off : Nat)
  | ip (cs : List PV)
  | iv (cs : List VV)
  | bf (id off n k : Nat)
  | mp (id : Nat)
  | fn (f : Fn) (first caps : List VV)
  | sv (k : Nat) (xs : List (List VV))
  | sw (id k : Nat) (xs : List (List VV))
  | yl (id : Nat)

structure LoopV where
  fid : Nat
  round : Option Nat
  dfr : Nat
  nt : Nat
  tm : List (Nat × VV)
  params : List Nat
  assign : Code
  body : Code
  st : LoopState
  pend : Option Code

/-- the keys of a map: integers of a kind, or structs of so many numbers -/
inductive KSh where
  | int (k : IntKind)
  | nums (n : Nat)
  deriving DecidableEq

inductive VObj where
  | obj (cs : List VV)
  | clm (m k : Nat)
  | mpo (sh : KSh) (es : List (List Int × VV))
  | lp (l : LoopV)
  | dfr
  | dead
  | gone

structure Mem where
  H : List VObj
  lg : List (Nat × Nat)

/-- what is known of a type -/
inductive Td where
  | int (k : IntKind)
  | bool
  | str
  | slice (e ke be : Nat)
  | arr (n e ke : Nat)
  | map (key e : Nat)
  | struct (fs : List (Nat × Nat))
  | other
structure Ty where
  d : Td
  size : Nat
  zero : List Value
  agg : Bool
  cmp : Bool
structure Tab where
  ty : Nat → Option Ty
  fn : Nat → Option Func
  vars : Nat → List Nat
  keeps : Nat → Bool
  own : Nat → Bool := fun _ => false

def ofValue : Value → VV
  | .int k n => .p (.int k n)
  | .bool b => .p (.bool b)
  | .string s => .p (.str s)
  | .pointer none => .p .nilp
  | .map none => .p .nilm
  | .nilFunc => .p .nilf
  | .slice none 0 0 => .sf 0 []
  | .func f ⟨[]⟩ ⟨[]⟩ => .fn f [] []
  | _ => .any

abbrev Env := List (Nat × VV)
def get : Env → Nat → VV
  | [], _ => .any
  | (k, v) :: e, t => bif Nat.beq t k then v else get e t
def ev (e : Env) : Operand → VV
  | .tmp t => get e t
  | .const v => ofValue v
  | .global _ => .any
  | .func f => .fn (.func f) [] []

/-- one cell's value, of which something is known -/
def isCell : VV → Bool
  | .any | .agg _ | .tup _ => false
  | _ => true
def cellsOf : VV → List VV
  | .agg cs => cs
  | v => [v]
def strip1 : VV → VV
  | .so _ k xs => .p (.sl k xs)
  | .sf k xs => .p (.sl k xs)
  | v => v
def toP : VV → Option PV
  | .p v => some v
  | .so _ k xs => some (.sl k xs)
  | .sf k xs => some (.sl k xs)
  | _ => none
def toPs : List VV → Option (List PV)
  | [] => some []
  | v :: vs => match toP v, toPs vs with
    | some x, some xs => some (x :: xs)
    | _, _ => none
def toPss : List (List VV) → Option (List (List PV))
  | [] => some []
  | v :: vs => match toPs v, toPss vs with
    | some x, some xs => some (x :: xs)
    | _, _ => none

mutual
def refs : VV → List Nat
  | .so id _ _ => [id]
  | .ptr id _ => [id]
  | .bf id _ _ _ => [id]
  | .mp id => [id]
  | .yl id => [id]
  | .agg cs => refsL cs
  | .tup vs => refsL vs
  | .iv cs => refsL cs
  | .fn _ a b => refsL a ++ refsL b
  | .sv _ xs => refsLL xs
  | .sw id _ xs => id :: refsLL xs
  | _ => []
def refsL : List VV → List Nat
  | [] => []
  | v :: vs => refs v ++ refsL vs
def refsLL : List (List VV) → List Nat
  | [] => []
  | v :: vs => refsL v ++ refsLL vs
end

def splice (cs : List VV) (off : Nat) (ws : List VV) : List VV := cs.take off ++ ws ++ cs.drop (off + ws.length)

def pureOf : Sem Value → Option Value
  | .pure v => some v
  | _ => none

def Mem.push (M : Mem) (o : VObj) : Mem := { M with H := M.H ++ [o] }

def addLg (id : Nat) (rs : List Nat) (lg : List (Nat × Nat)) : List (Nat × Nat) :=
  match rs.filter (fun r => Nat.blt id r && !(lg.any fun e => Nat.beq e.1 id && Nat.beq e.2 r)) with
  | [] => lg
  | rs => lg ++ rs.map fun r => (id, r)

section ops
variable (T : Tab)

def vload (t : Nat) (a : VV) (M : Mem) : Option VV :=
  match T.ty t with
  | none => none
  | some y =>
    match a with
    | .ptr id off =>
      match M.H[id]? with
      | some (.obj cs) => bif y.agg then (bif Nat.ble (off + y.size) cs.length then some (.agg (((cs.drop off).take y.size).map strip1)) else none) else cs[off]?
      | _ => none
    | .ip cs => bif y.agg then (bif Nat.ble y.size cs.length then some (.agg ((cs.take y.size).map .p)) else none) else (cs[0]?).map .p
    | .iv cs => bif y.agg then (bif Nat.ble y.size cs.length then some (.agg ((cs.take y.size).map strip1)) else none) else cs[0]?
    | _ => none

def vstore (t : Nat) (a v : VV) (M : Mem) : Option Mem :=
  match T.ty t, a with
  | some y, .ptr id off =>
    match M.H[id]? with
    | some (.obj cs) =>
      bif Nat.beq (cellsOf v).length y.size && Nat.ble (off + y.size) cs.length && (cellsOf v).all isCell then
        some { H := M.H.set id (.obj (splice cs off (cellsOf v))), lg := addLg id (refs v) M.lg }
      else none
    | _ => none
  | _, _ => none

def vfill (place : Nat → Option (Nat × Nat)) (cs : List VV) : List (Nat × VV) → Option (List VV)
  | [] => some cs
  | (i, v) :: rest =>
    match place i with
    | none => none
    | some (off, size) =>
      bif Nat.beq (cellsOf v).length size && Nat.ble (off + size) cs.length && (cellsOf v).all isCell then vfill place (splice cs off ((cellsOf v).map strip1)) rest else none

def elemsOf : VV → Option (Nat × List (List PV))
  | .p (.sl k xs) => some (k, xs)
  | .so _ k xs => some (k, xs)
  | .sf k xs => some (k, xs)
  | _ => none

def fits (k k' : Nat) (xs : List (List PV)) : Bool := Nat.beq k k' || xs.isEmpty

/-- an index that is not below 0 -/
def idx (v : VV) : Option Nat :=
  match v with
  | .p (.int _ i) => bif decide (0 ≤ i) then some i.toNat else none
  | _ => none

def vindexAddr (t : Nat) (x i : VV) : Option VV :=
  match T.ty t, idx i with
  | some y, some n =>
    match y.d with
    | .slice _ ke _ =>
      match x with
      | .bf id off m k => bif Nat.blt n m && Nat.beq k ke then some (.ptr id (off + n * ke)) else none
      | .sv k xs => bif Nat.beq k ke then (xs[n]?).map .iv else none
      | .sw _ k xs => bif Nat.beq k ke then (xs[n]?).map .iv else none
      | x => match elemsOf x with
        | some (k, xs) => bif Nat.beq k ke then (xs[n]?).map .ip else none
        | none => none
    | .arr m _ ke =>
      bif Nat.blt n m then
        (match x with
        | .ptr id off => some (.ptr id (off + n * ke))
        | .ip cs => some (.ip (cs.drop (n * ke)))
        | .iv cs => some (.iv (cs.drop (n * ke)))
        | _ => none)
      else none
    | _ => none
  | _, _ => none

def vfieldAddr (t : Nat) (x : VV) (f : Nat) : Option VV :=
  match T.ty t with
  | some { d := .struct fs, .. } =>
    match fs[f]? with
    | some (o, _) =>
      (match x with
      | .ptr id off => some (.ptr id (off + o))
      | .ip cs => some (.ip (cs.drop o))
      | .iv cs => some (.iv (cs.drop o))
      | _ => none)
    | none => none
  | _ => none

def obound (d : Nat) : Option VV → Option Nat
  | none => some d
  | some v => idx v
def vslice (t : Nat) (x : VV) (lo hi : Option VV) : Option VV :=
  match T.ty t with
  | some { d := .slice _ ke _, .. } =>
    match x with
    | .bf id off m k =>
      (match obound m hi, obound 0 lo with
      | some h, some l => bif Nat.beq k ke && Nat.ble h m && Nat.ble l h then some (.bf id (off + l * ke) (h - l) k) else none
      | _, _ => none)
    | x =>
      match elemsOf x with
      | some (k, xs) =>
        (match obound xs.length hi, obound 0 lo with
        | some h, some l => bif fits k ke xs && Nat.ble h xs.length && Nat.ble l h then some (.p (.sl k ((xs.take h).drop l))) else none
        | _, _ => none)
      | none => none
  | _ => none

/-- rows of values, behind a slice of our own of such rows -/
def vappendV (ke be : Nat) (s x : VV) (M : Mem) : Option (VV × Mem) :=
  match x with
  | .sv k ys => bif Nat.beq k ke && !ys.isEmpty then
      (match s with
      | .sw id k' xs =>
        match M.H[id]? with
        | some (.clm m k'') =>
          bif Nat.beq m xs.length && Nat.beq k'' ke && Nat.beq k' ke && Nat.ble ((xs.length + ys.length) * be) 140737488355328 then
            some (.sw id ke (xs ++ ys), { M with H := M.H.set id (.clm (m + ys.length) ke) }) else none
        | _ => none
      | _ => none) else none
  | _ => none
/-- a buffer of our own that grows: a new object, and the old one is gone -/
def vgrow (ke be : Nat) (s : VV) (ys : List (List VV)) (M : Mem) : Option (VV × Mem) :=
  bif !ys.isEmpty then
    match s with
    | .sf k xs => bif fits k ke xs && Nat.ble ((xs.length + ys.length) * be) 140737488355328 then some (.bf M.H.length 0 (xs.length + ys.length) ke, M.push (.obj (xs.flatten.map .p ++ ys.flatten))) else none
    | .bf id 0 n k => match M.H[id]? with
      | some (.obj cs) => bif Nat.beq k ke && Nat.blt 0 n && Nat.beq cs.length (n * ke) && Nat.ble ((n + ys.length) * be) 140737488355328 then
          some (.bf M.H.length 0 (n + ys.length) ke, { M with H := M.H.set id .gone ++ [.obj (cs ++ ys.flatten)] }) else none
      | _ => none
    | _ => none
  else none
def vappend (t : Nat) (s x : VV) (M : Mem) : Option (VV × Mem) :=
  match T.ty t, elemsOf x with
  | some { d := .slice _ ke be, .. }, some (k, ys) =>
    bif fits k ke ys then
      (match s with
      | .sf k' xs => bif fits k' ke xs && Nat.ble ((xs.length + ys.length) * be) 140737488355328 && (xs.isEmpty || !ys.isEmpty) then (bif T.own t && xs.isEmpty then some (.bf M.H.length 0 ys.length ke, M.push (.obj (ys.flatten.map .p))) else bif T.own t then vgrow ke be (.sf k' xs) (ys.map (List.map .p)) M else some (.so M.H.length ke (xs ++ ys), M.push (.clm (xs.length + ys.length) ke))) else none
      | .so id k' xs =>
        match M.H[id]? with
        | some (.clm m k'') =>
          bif Nat.beq m xs.length && Nat.beq k'' ke && Nat.beq k' ke && Nat.ble ((xs.length + ys.length) * be) 140737488355328 then
            some (.so id ke (xs ++ ys), { M with H := M.H.set id (.clm (m + ys.length) ke) }) else none
        | _ => none
      | .bf id off n k' => bif T.own t then vgrow ke be (.bf id off n k') (ys.map (List.map .p)) M else none
      | _ => none)
    else none
  | some { d := .slice _ ke be, .. }, none => (match x with
    | .sv k ys => bif T.own t then (bif Nat.beq k ke then vgrow ke be s ys M else none) else vappendV ke be s (.sv k ys) M
    | _ => none)
  | _, _ => none

def vlen (t : Nat) (x : VV) (M : Mem) : Option VV :=
  match T.ty t with
  | some { d := .slice .., .. } => match x with
    | .bf _ _ n _ => some (.p (.int .i64 n))
    | .sv _ xs => some (.p (.int .i64 xs.length))
    | .sw _ _ xs => some (.p (.int .i64 xs.length))
    | x => (elemsOf x).map fun e => .p (.int .i64 e.2.length)
  | some { d := .str, .. } => match x with
    | .p (.str s) => some (.p (.int .i64 s.size))
    | _ => none
  | some { d := .map .., .. } => match x with
    | .p .nilm => some (.p (.int .i64 0))
    | .mp id => match M.H[id]? with
      | some (.mpo _ es) => some (.p (.int .i64 es.length))
      | _ => none
    | _ => none
  | some { d := .arr n .., .. } => some (.p (.int .i64 n))
  | _ => none

def vext (mx : Bool) (x y : VV) : Option VV :=
  match x, y with
  | .p (.int k a), .p (.int _ b) => some (.p (.int k (bif mx then (bif decide (b > a) then b else a) else (bif decide (b < a) then b else a))))
  | _, _ => none
def vexts (mx : Bool) (x : VV) : List VV → Option VV
  | [] => some x
  | y :: r => match vext mx x y with
    | some z => vexts mx z r
    | none => none

def vmakeSlice (t : Nat) (l c : VV) (M : Mem) : Option (VV × Mem) :=
  match T.ty t, idx l, idx c with
  | some { d := .slice e ke be, .. }, some n, some m =>
    match T.ty e with
    | some y =>
      bif Nat.ble (m * be) 140737488355328 && Nat.ble m 9223372036854775807 then
        (bif Nat.beq n m then some (.bf M.H.length 0 n ke, M.push (.obj ((List.replicate n (y.zero.map ofValue)).flatten)))
        else bif Nat.beq n 0 then some (.so M.H.length ke [], M.push (.clm 0 ke)) else none)
      else none
    | none => none
  | _, _, _ => none

def cellInts : List VV → Option (List Int)
  | [] => some []
  | .p (.int .i64 n) :: r => (cellInts r).map (n :: ·)
  | _ => none
/-- a key of a map, by the key's type -/
def keyOf (y : Ty) (v : VV) : Option (List Int) :=
  match v with
  | .p (.int k' n) => (match y.d with
    | .int k => if k = k' then some [n] else none
    | _ => none)
  | .agg cs => bif y.cmp && Nat.beq cs.length y.size then cellInts cs else none
  | _ => none
def shOf (y : Ty) : KSh := match y.d with
  | .int k => .int k
  | _ => .nums y.size
def zeroV (y : Ty) : Option VV := bif y.agg then some (.agg (y.zero.map ofValue)) else (match y.zero with | [z] => some (ofValue z) | _ => none)
def assoc (ks : List Int) : List (List Int × VV) → Option VV
  | [] => none
  | (k, v) :: r => bif decide (k = ks) then some v else assoc ks r
def assocSet (ks : List Int) (v : VV) : List (List Int × VV) → List (List Int × VV)
  | [] => [(ks, v)]
  | (k, u) :: r => bif decide (k = ks) then (ks, v) :: r else (k, u) :: assocSet ks v r

def vlookup (t : Nat) (x k : VV) (ok : Bool) (M : Mem) : Option VV :=
  match T.ty t with
  | some { d := .map kt e, .. } =>
    match T.ty kt, T.ty e with
    | some ky, some ey =>
      match keyOf ky k, zeroV ey with
      | some ks, some z =>
        (match (match x with
          | .p .nilm => some []
          | .mp id => match M.H[id]? with
            | some (.mpo sh es) => if sh = shOf ky then some es else none
            | _ => none
          | _ => none) with
        | some es => match assoc ks es with
          | some v => some (bif ok then .tup [v, .p (.bool true)] else v)
          | none => some (bif ok then .tup [z, .p (.bool false)] else z)
        | none => none)
      | _, _ => none
    | _, _ => none
  | _ => none

def vmapUpdate (t : Nat) (x k v : VV) (M : Mem) : Option Mem :=
  match T.ty t, x with
  | some { d := .map kt _, .. }, .mp id =>
    match T.ty kt with
    | some ky =>
      match keyOf ky k, M.H[id]? with
      | some ks, some (.mpo sh es) => if sh = shOf ky then some { H := M.H.set id (.mpo sh (assocSet ks v es)), lg := addLg id (refs v) M.lg } else none
      | _, _ => none
    | none => none
  | _, _ => none

/-- '==' on structs and arrays of numbers -/
def veqCells : List VV → List VV → Option Bool
  | [], [] => some true
  | .p (.int .i64 a) :: r, .p (.int .i64 b) :: s => (veqCells r s).map (decide (a = b) && ·)
  | _, _ => none

def vbin (op : BinOp) (t : Nat) (x y : VV) : Option VV :=
  match x, y with
  | .p (.int k a), .p (.int k' b) => (pureOf (Go.binOp op 0 (.int k a) (.int k' b))).map ofValue
  | .p (.str a), .p (.str b) => (pureOf (Op.stringOp op a b)).map ofValue
  | .p (.bool a), .p (.bool b) => match T.ty t, op with
    | some { d := .bool, .. }, .eql => some (.p (.bool (a == b)))
    | some { d := .bool, .. }, .neq => some (.p (.bool (!(a == b))))
    | _, _ => none
  | .agg xs, .agg ys => match T.ty t with
    | some ty => bif ty.cmp && Nat.beq xs.length ty.size && Nat.beq ys.length ty.size then
        (match op with
        | .eql => (veqCells xs ys).map fun b => .p (.bool b)
        | .neq => (veqCells xs ys).map fun b => .p (.bool (!b))
        | _ => none)
      else none
    | none => none
  | _, _ => none

def vun (op : UnOp) (x : VV) : Option VV :=
  match x with
  | .p (.int k a) => (pureOf (Op.unary op (.int k a))).map ofValue
  | .p (.bool b) => (pureOf (Op.unary op (.bool b))).map ofValue
  | _ => none

def vconvert (s d : Nat) (x : VV) : Option VV :=
  match T.ty s, T.ty d, x with
  | some _, some { d := .int k, .. }, .p (.int _ n) => (pureOf (Conv.intToInt k n)).map ofValue
  | _, _, _ => none

def placesOf (fs : List (Nat × Nat)) (i : Nat) : Option (Nat × Nat) := fs[i]?

def vbuild (t : Nat) (parts : List (Nat × VV)) : Option VV :=
  match T.ty t with
  | some { d := .struct fs, zero := z, .. } => (vfill (placesOf fs) (z.map ofValue) parts).map .agg
  | some { d := .arr _ _ ke, zero := z, .. } => (vfill (fun i => some (i * ke, ke)) (z.map ofValue) parts).map .agg
  | _ => none

def inOrder : Nat → List (Nat × VV) → Option (List VV)
  | _, [] => some []
  | i, (j, v) :: r => bif Nat.beq i j then (inOrder (i + 1) r).map (v :: ·) else none

def vbuildSlice (t len : Nat) (parts : List (Nat × VV)) : Option VV :=
  match T.ty t, inOrder 0 parts with
  | some { d := .slice _ ke _, .. }, some vs =>
    bif Nat.beq vs.length len && Nat.ble (len * ke) 16777216 && vs.all (fun v => Nat.beq (cellsOf v).length ke && (cellsOf v).all isCell) then
      (match toPss (vs.map cellsOf) with
      | some xs => some (.sf ke xs)
      | none => some (.sv ke (vs.map fun v => (cellsOf v).map strip1)))
    else none
  | _, _ => none

def vindex (t : Nat) (x i : VV) : Option VV :=
  match T.ty t, idx i with
  | some { d := .str, .. }, some n => (match x with
    | .p (.str s) => match s[n]? with
      | some b => some (.p (.int .u8 b.toNat))
      | none => none
    | _ => none)
  | some { d := .arr m e ke, .. }, some n =>
    (match T.ty e, x with
    | some y, .agg cs => bif Nat.blt n m then (bif y.agg then some (.agg ((cs.drop (n * ke)).take ke)) else cs[n * ke]?) else none
    | _, _ => none)
  | _, _ => none

/-- what an operation that calls no function of the program's yields, and leaves -/
def vop (op : Go.Op) (ρ : Operand → VV) (M : Mem) : Option (VV × Mem) :=
  match op with
  | .move x => some (ρ x, M)
  | .assign x => some (ρ x, M)
  | .pick c a b => match ρ c with
    | .p (.bool t) => some (bif t then ρ a else ρ b, M)
    | _ => none
  | .alloc e => match T.ty e with
    | some y => some (.ptr M.H.length 0, M.push (.obj (y.zero.map ofValue)))
    | none => none
  | .box _ x => bif (cellsOf (ρ x)).all isCell then some (.ptr M.H.length 0, M.push (.obj (cellsOf (ρ x)))) else none
  | .build t parts => (vbuild T t (parts.toList.map fun p => (p.1, ρ p.2))).map (·, M)
  | .buildSlice t n parts => (vbuildSlice T t n (parts.toList.map fun p => (p.1, ρ p.2))).map (·, M)
  | .load t a => (vload T t (ρ a) M).map (·, M)
  | .store t a x => (vstore T t (ρ a) (ρ x) M).map (.tup [], ·)
  | .nilCheck x => match ρ x with
    | .ptr id off => some (.ptr id off, M)
    | .ip cs => some (.ip cs, M)
    | .iv cs => some (.iv cs, M)
    | _ => none
  | .binOp op t x y _ => (vbin T op t (ρ x) (ρ y)).map (·, M)
  | .unOp op _ x => (vun op (ρ x)).map (·, M)
  | .convert s d x => (vconvert T s d (ρ x)).map (·, M)
  | .makeFunc f first caps => bif (first.toList.map ρ).all isCell && (caps.toList.map ρ).all isCell then some (.fn f (first.toList.map ρ) (caps.toList.map ρ), M) else none
  | .makeMap t none => match T.ty t with
    | some { d := .map kt _, .. } => match T.ty kt with
      | some ky => some (.mp M.H.length, M.push (.mpo (shOf ky) []))
      | none => none
    | _ => none
  | .makeSlice t l c => vmakeSlice T t (ρ l) (ρ c) M
  | .slice t x lo hi none => (vslice T t (ρ x) (lo.map ρ) (hi.map ρ)).map (·, M)
  | .fieldAddr t x f => (vfieldAddr T t (ρ x) f).map (·, M)
  | .indexAddr t x i => (vindexAddr T t (ρ x) (ρ i)).map (·, M)
  | .index t x i => (vindex T t (ρ x) (ρ i)).map (·, M)
  | .lookup t x k ok => (vlookup T t (ρ x) (ρ k) ok M).map (·, M)
  | .mapUpdate t m k v => (vmapUpdate T t (ρ m) (ρ k) (ρ v) M).map (.tup [], ·)
  | .extract t i => match ρ t with
    | .tup vs => (vs[i]?).map (·, M)
    | _ => none
  | .call { callee := .builtin .append, args := ⟨[s, x]⟩, argTypes := ⟨[t, t']⟩ } => if t = t' then vappend T t (ρ s) (ρ x) M else none
  | .call { callee := .builtin .len, args := ⟨[x]⟩, argTypes := ⟨[t]⟩ } => (vlen T t (ρ x) M).map (·, M)
  | .call { callee := .builtin .max, args := ⟨x :: r⟩, .. } => (vexts true (ρ x) (r.map ρ)).map (·, M)
  | .call { callee := .builtin .min, args := ⟨x :: r⟩, .. } => (vexts false (ρ x) (r.map ρ)).map (·, M)
  | _ => none
end ops
end Go.Proofs.Ytmagiabapakhcaa.Vm
