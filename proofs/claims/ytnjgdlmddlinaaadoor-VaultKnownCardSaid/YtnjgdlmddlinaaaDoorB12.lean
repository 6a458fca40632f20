/- A part of the proofs about the chapter of the vaults; it states no condition of its own. -/
import Derived.Test.YtnjgdlmddlinaaaDoorB11
set_option linter.unusedVariables false
set_option linter.unusedSimpArgs false
/- A machine on values: one operation after the other, as equations. -/
namespace Go.Proofs.YtnjgdlmddlinaaaDoor.Vm
open Go

section
variable {P : Program} {T : Tab} {nt : Nat} {all : Array Oper} {r : List Oper} {e : Env} {M : Mem} {Kn : Env → Mem → Prop} {ty : TypeId} {p : String} {af : Array Edge} {d : Nat}

def Put (P : Program) (T : Tab) (nt : Nat) (all : Array Oper) (r : List Oper) (Kn : Env → Mem → Prop) (d : Nat) (e : Env) (M : Mem) : Option VV → Prop
 | some v => d < nt ∧ WOps P T nt all r ((d, v) :: e) M Kn
 | none => False
theorem Put_some {v : VV} : Put P T nt all r Kn d e M (some v) = (d < nt ∧ WOps P T nt all r ((d, v) :: e) M Kn) := rfl
def PutM (P : Program) (T : Tab) (nt : Nat) (all : Array Oper) (r : List Oper) (Kn : Env → Mem → Prop) (d : Nat) (e : Env) : Option (VV × Mem) → Prop
 | some (v, M) => d < nt ∧ WOps P T nt all r ((d, v) :: e) M Kn
 | none => False
theorem PutM_some {v : VV} : PutM P T nt all r Kn d e (some (v, M)) = (d < nt ∧ WOps P T nt all r ((d, v) :: e) M Kn) := rfl
theorem vput_some (nt d : Nat) (v : VV) (e : Env) (k : Env → Prop) : (match vput nt (some d) v e with
  | some e' => k e'
  | none => False) = (d < nt ∧ k ((d, v) :: e)) := by
 simp only [vput]
 cases hb : Nat.blt d nt with
 | true => rw [Nat.blt_eq] at hb; simp [hb]
 | false =>
  have : ¬ d < nt := fun h => by rw [← Nat.blt_eq] at h; rw [h] at hb; cases hb
  simp [this]
theorem WOp_v {o : Oper} {Q : VV → Mem → Prop} (hc : ∀ f args types, o.op ≠ .call { callee := .value f, args := args, argTypes := types }) : WOp P T o e M Q = (match vop T o.op (ev e) M with
  | some (v, M') => Q v M'
  | none => False) := by
 unfold WOp
 split
 ·rename_i f args types hop
  exact absurd hop (hc f args types)
 ·rfl
theorem S_op {op : Go.Op} (hc : ∀ f args types, op ≠ .call { callee := .value f, args := args, argTypes := types }) :
  WOps P T nt all ({ dst := some d, op := op, type := ty, pos := p, after := af, guard := none } :: r) e M Kn = PutM P T nt all r Kn d e (vop T op (ev e) M) := by
 simp only [WOps, vwanted, forall_const, reduceCtorEq, false_implies, and_true]
 rw [WOp_v hc]
 simp only
 cases vop T op (ev e) M with
 | none => rfl
 | some q =>
  obtain ⟨v, M'⟩ := q
  exact vput_some nt d v e fun e' => WOps P T nt all r e' M' Kn
theorem PutM_map {x : Option VV} : PutM P T nt all r Kn d e (x.map (·, M)) = Put P T nt all r Kn d e M x := by cases x <;> rfl
theorem S_move {x : Operand} : WOps P T nt all ({ dst := some d, op := .move x, type := ty, pos := p, after := af, guard := none } :: r) e M Kn = (d < nt ∧ WOps P T nt all r ((d, ev e x) :: e) M Kn) := by
 rw [S_op (by intros; simp)]; rfl
theorem S_assign {x : Operand} : WOps P T nt all ({ dst := some d, op := .assign x, type := ty, pos := p, after := af, guard := none } :: r) e M Kn = (d < nt ∧ WOps P T nt all r ((d, ev e x) :: e) M Kn) := by
 rw [S_op (by intros; simp)]; rfl
theorem S_bin {op : BinOp} {t yt : TypeId} {x y : Operand} : WOps P T nt all ({ dst := some d, op := .binOp op t x y yt, type := ty, pos := p, after := af, guard := none } :: r) e M Kn = Put P T nt all r Kn d e M (vbinK T op t (ev e x) (ev e y) y) := by
 rw [S_op (by intros; simp)]; exact PutM_map
theorem S_pick {c a b : Operand} : WOps P T nt all ({ dst := some d, op := .pick c a b, type := ty, pos := p, after := af, guard := none } :: r) e M Kn = (match ev e c with
  | .p (.bool t) => d < nt ∧ WOps P T nt all r ((d, bif t then ev e a else ev e b) :: e) M Kn
  | _ => False) := by
 rw [S_op (by intros; simp)]
 simp only [vop]
 generalize ev e c = u
 split
 ·rfl
 ·rename_i hn
  split
  ·rename_i t; exact absurd rfl (hn t)
  ·rfl
theorem S_nilCheck {x : Operand} : WOps P T nt all ({ dst := some d, op := .nilCheck x, type := ty, pos := p, after := af, guard := none } :: r) e M Kn = (match ev e x with
  | .ptr id off => d < nt ∧ WOps P T nt all r ((d, .ptr id off) :: e) M Kn
  | .ip cs => d < nt ∧ WOps P T nt all r ((d, .ip cs) :: e) M Kn
  | .iv cs => d < nt ∧ WOps P T nt all r ((d, .iv cs) :: e) M Kn
  | _ => False) := by
 rw [S_op (by intros; simp)]
 simp only [vop]
 cases ev e x <;> rfl
theorem S_extract {x : Operand} {i : Nat} : WOps P T nt all ({ dst := some d, op := .extract x i, type := ty, pos := p, after := af, guard := none } :: r) e M Kn = (match ev e x with
  | .tup vs => Put P T nt all r Kn d e M (vs[i]?)
  | _ => False) := by
 rw [S_op (by intros; simp)]
 simp only [vop]
 cases ev e x <;> first | rfl | exact PutM_map
theorem S_makeSlice {t : TypeId} {l c : Operand} : WOps P T nt all ({ dst := some d, op := .makeSlice t l c, type := ty, pos := p, after := af, guard := none } :: r) e M Kn = PutM P T nt all r Kn d e (vmakeSlice T t (ev e l) (ev e c) M) := by
 rw [S_op (by intros; simp)]; rfl
theorem S_makeFunc {f : Fn} {first caps : Array Operand} : WOps P T nt all ({ dst := some d, op := .makeFunc f first caps, type := ty, pos := p, after := af, guard := none } :: r) e M Kn = (((first.toList.map (ev e)).all isCell && (caps.toList.map (ev e)).all isCell) = true ∧ d < nt ∧ WOps P T nt all r ((d, .fn f (first.toList.map (ev e)) (caps.toList.map (ev e))) :: e) M Kn) := by
 rw [S_op (by intros; simp)]
 simp only [vop]
 cases (first.toList.map (ev e)).all isCell && (caps.toList.map (ev e)).all isCell <;> simp [PutM]
theorem S_un {op : UnOp} {t : TypeId} {x : Operand} : WOps P T nt all ({ dst := some d, op := .unOp op t x, type := ty, pos := p, after := af, guard := none } :: r) e M Kn = Put P T nt all r Kn d e M (vun op (ev e x)) := by
 rw [S_op (by intros; simp)]; exact PutM_map
theorem S_convert {s t : TypeId} {x : Operand} : WOps P T nt all ({ dst := some d, op := .convert s t x, type := ty, pos := p, after := af, guard := none } :: r) e M Kn = Put P T nt all r Kn d e M (vconvert T s t (ev e x)) := by
 rw [S_op (by intros; simp)]; exact PutM_map
theorem S_load {t : TypeId} {x : Operand} : WOps P T nt all ({ dst := some d, op := .load t x, type := ty, pos := p, after := af, guard := none } :: r) e M Kn = Put P T nt all r Kn d e M (vload T t (ev e x) M) := by
 rw [S_op (by intros; simp)]; exact PutM_map
theorem S_field {t : TypeId} {x : Operand} {f : Nat} : WOps P T nt all ({ dst := some d, op := .fieldAddr t x f, type := ty, pos := p, after := af, guard := none } :: r) e M Kn = Put P T nt all r Kn d e M (vfieldAddr T t (ev e x) f) := by
 rw [S_op (by intros; simp)]; exact PutM_map
theorem S_indexAddr {t : TypeId} {x i : Operand} : WOps P T nt all ({ dst := some d, op := .indexAddr t x i, type := ty, pos := p, after := af, guard := none } :: r) e M Kn = Put P T nt all r Kn d e M (vindexAddr T t (ev e x) (ev e i)) := by
 rw [S_op (by intros; simp)]; exact PutM_map
theorem S_index {t : TypeId} {x i : Operand} : WOps P T nt all ({ dst := some d, op := .index t x i, type := ty, pos := p, after := af, guard := none } :: r) e M Kn = Put P T nt all r Kn d e M (vindex T t (ev e x) (ev e i)) := by
 rw [S_op (by intros; simp)]; exact PutM_map
theorem S_slice {t : TypeId} {x : Operand} {lo hi : Option Operand} : WOps P T nt all ({ dst := some d, op := .slice t x lo hi none, type := ty, pos := p, after := af, guard := none } :: r) e M Kn = Put P T nt all r Kn d e M (vslice T t (ev e x) (lo.map (ev e)) (hi.map (ev e))) := by
 rw [S_op (by intros; simp)]; exact PutM_map
theorem S_lookup {t : TypeId} {x k : Operand} {ok : Bool} : WOps P T nt all ({ dst := some d, op := .lookup t x k ok, type := ty, pos := p, after := af, guard := none } :: r) e M Kn = Put P T nt all r Kn d e M (vlookup T t (ev e x) (ev e k) ok M) := by
 rw [S_op (by intros; simp)]; exact PutM_map
theorem S_build {t : TypeId} {parts : Array (Nat × Operand)} : WOps P T nt all ({ dst := some d, op := .build t parts, type := ty, pos := p, after := af, guard := none } :: r) e M Kn = Put P T nt all r Kn d e M (vbuild T t (parts.toList.map fun p => (p.1, ev e p.2))) := by
 rw [S_op (by intros; simp)]; exact PutM_map
theorem S_buildSlice {t n : TypeId} {parts : Array (Nat × Operand)} (hs : T.ownS t n = false) : WOps P T nt all ({ dst := some d, op := .buildSlice t n parts, type := ty, pos := p, after := af, guard := none } :: r) e M Kn = Put P T nt all r Kn d e M (vbuildSlice T t n (parts.toList.map fun p => (p.1, ev e p.2))) := by
 rw [S_op (by intros; simp)]; simp only [vop, hs, cond_false]; exact PutM_map
theorem S_buildOwn {t n : TypeId} {parts : Array (Nat × Operand)} (hs : T.ownS t n = true) : WOps P T nt all ({ dst := some d, op := .buildSlice t n parts, type := ty, pos := p, after := af, guard := none } :: r) e M Kn = PutM P T nt all r Kn d e (vbuildOwn T t n (parts.toList.map fun p => (p.1, ev e p.2)) M) := by
 rw [S_op (by intros; simp)]; simp only [vop, hs, cond_true]
theorem S_append {s x : Operand} {t : TypeId} : WOps P T nt all ({ dst := some d, op := .call { callee := .builtin .append, args := #[s, x], argTypes := #[t, t] }, type := ty, pos := p, after := af, guard := none } :: r) e M Kn = PutM P T nt all r Kn d e (vappend T t (ev e s) (ev e x) M) := by
 rw [S_op (by intros; simp)]; simp [vop]
theorem S_len {x : Operand} {t : TypeId} : WOps P T nt all ({ dst := some d, op := .call { callee := .builtin .len, args := #[x], argTypes := #[t] }, type := ty, pos := p, after := af, guard := none } :: r) e M Kn = Put P T nt all r Kn d e M (vlen T t (ev e x) M) := by
 rw [S_op (by intros; simp)]; exact PutM_map
theorem S_box {t : TypeId} {x : Operand} : WOps P T nt all ({ dst := some d, op := .box t x, type := ty, pos := p, after := af, guard := none } :: r) e M Kn = ((cellsOf (ev e x)).all isCell = true ∧ d < nt ∧ WOps P T nt all r ((d, .ptr M.H.length 0) :: e) (M.push (.obj (cellsOf (ev e x)))) Kn) := by
 rw [S_op (by intros; simp)]
 simp only [vop]
 cases (cellsOf (ev e x)).all isCell <;> simp [PutM]
theorem S_store {t : TypeId} {a x : Operand} : WOps P T nt all ({ dst := none, op := .store t a x, type := ty, pos := p, after := af, guard := none } :: r) e M Kn = (match vstore T t (ev e a) (ev e x) M with
  | some M' => WOps P T nt all r e M' Kn
  | none => False) := by
 simp only [WOps, vwanted, WOp, vop, forall_const, reduceCtorEq, false_implies, and_true]
 cases vstore T t (ev e a) (ev e x) M <;> rfl
def Then (P : Program) (T : Tab) (nt : Nat) (all : Array Oper) (r : List Oper) (Kn : Env → Mem → Prop) (d : Nat) (e : Env) (v : VV) (M : Mem) : Prop := d < nt ∧ WOps P T nt all r ((d, v) :: e) M Kn
theorem Then_app {v : VV} : Then P T nt all r Kn d e v M = (d < nt ∧ WOps P T nt all r ((d, v) :: e) M Kn) := rfl
theorem S_call {f : Operand} {args : Array Operand} {ts : Array TypeId} : WOps P T nt all ({ dst := some d, op := .call { callee := .value f, args := args, argTypes := ts }, type := ty, pos := p, after := af, guard := none } :: r) e M Kn =
  VCall P (ev e f) (args.toList.map (ev e)) M (Then P T nt all r Kn d e) := by
 show _ = VCall P (ev e f) (args.toList.map (ev e)) M (fun v M' => d < nt ∧ WOps P T nt all r ((d, v) :: e) M' Kn)
 simp only [WOps, vwanted, WOp, forall_const, reduceCtorEq, false_implies, and_true]
 congr 1
 funext v M'
 exact vput_some nt d v e fun e' => WOps P T nt all r e' M' Kn
def Gd (ops : Array Oper) (gd : Option (Nat × Bool)) (e : Env) (A B : Prop) : Prop := match gd with
 | none => A
 | some (j, w) => match (ops[j]?).bind (·.dst) with
  | some g => (match get e g with
   | .p (.bool b) => if b = w then A else B
   | .tup [] => B
   | _ => False)
  | none => False
theorem Gd_none {A B : Prop} : Gd all none e A B = A := rfl
theorem Gd_some {j : Nat} {w : Bool} {A B : Prop} : Gd all (some (j, w)) e A B = (match (all[j]?).bind (·.dst) with
  | some g => (match get e g with
   | .p (.bool b) => if b = w then A else B
   | .tup [] => B
   | _ => False)
  | none => False) := rfl
def gdV (w : Bool) : VV → Option Bool
 | .p (.bool b) => some (b == w)
 | .tup [] => some false
 | _ => none
def gdB (all : Array Oper) (j : Nat) (w : Bool) (e : Env) : Option Bool := match (all[j]?).bind (·.dst) with
 | some g => gdV w (get e g)
 | none => none
theorem Gd_w {j : Nat} {w : Bool} {A B : Prop} {b : Bool} (h : gdB all j w e = some b) : Gd all (some (j, w)) e A B = if b = true then A else B := by
 rw [Gd_some]
 unfold gdB at h
 revert h
 generalize (all[j]?).bind (·.dst) = x
 intro h
 cases x with
 | none => cases h
 | some g =>
  simp only at h ⊢
  generalize get e g = u at h ⊢
  unfold gdV at h
  split at h
  ·rename_i b'
   cases h
   by_cases hb : b' = w
   ·subst hb; simp
   ·have : (b' == w) = false := by simpa using hb
    simp [hb, this]
  ·cases h; simp
  ·cases h
theorem Gd_t {j : Nat} {w : Bool} {A B : Prop} (h : gdB all j w e = some true) : Gd all (some (j, w)) e A B = A := by rw [Gd_w h]; simp
theorem Gd_f {j : Nat} {w : Bool} {A B : Prop} (h : gdB all j w e = some false) : Gd all (some (j, w)) e A B = B := by rw [Gd_w h]; simp
theorem VG : type_of% (And.intro (@Gd_none) (And.intro (@Gd_t) (@Gd_f))) := And.intro (@Gd_none) (And.intro (@Gd_t) (@Gd_f))
theorem S_guard {op : Go.Op} {j : Nat} {w : Bool} : WOps P T nt all ({ dst := some d, op := op, type := ty, pos := p, after := af, guard := some (j, w) } :: r) e M Kn = Gd all (some (j, w)) e (WOps P T nt all ({ dst := some d, op := op, type := ty, pos := p, after := af, guard := none } :: r) e M Kn) (d < nt ∧ WOps P T nt all r ((d, .tup []) :: e) M Kn) := by
 rw [Gd_some]
 have h0 : WOps P T nt all ({ dst := some d, op := op, type := ty, pos := p, after := af, guard := none } :: r) e M Kn = WOp P T { dst := some d, op := op, type := ty, pos := p, after := af, guard := none } e M (fun v M' => match vput nt (some d) v e with
   | some e' => WOps P T nt all r e' M' Kn
   | none => False) := by
  simp only [WOps, vwanted, forall_const, reduceCtorEq, false_implies, and_true]
  rfl
 have hW : ∀ Q, WOp P T { dst := some d, op := op, type := ty, pos := p, after := af, guard := some (j, w) } e M Q = WOp P T { dst := some d, op := op, type := ty, pos := p, after := af, guard := none } e M Q := fun Q => rfl
 rw [h0]
 simp only [WOps, vwanted]
 cases (all[j]?).bind (·.dst) with
 | none => rfl
 | some g =>
  simp only
  split
  ·rename_i b hb
   split at hb
   ·cases hb
   ·cases hb
   ·rename_i hn1 hn2
    split
    ·rename_i b' h'; exact absurd h' (hn1 b')
    ·rename_i h'; exact absurd h' hn2
    ·rfl
  ·rename_i b hb
   split at hb
   ·rename_i b' hg
    cases hb
    simp only [hg]
    by_cases hw : b' = w
    ·subst hw
     rw [if_pos rfl]
     simp only [beq_self_eq_true, forall_const, reduceCtorEq, false_implies, and_true, hW, Bool.true_eq_false]
     rfl
    ·rw [if_neg hw]
     have : (b' == w) = false := by simpa using hw
     simp only [this, reduceCtorEq, false_implies, forall_const, true_and, Bool.false_eq_true]
     exact vput_some nt d (.tup []) e fun e' => WOps P T nt all r e' M Kn
   ·rename_i hg
    cases hb
    simp only [hg, reduceCtorEq, false_implies, forall_const, true_and, Bool.false_eq_true]
    exact vput_some nt d (.tup []) e fun e' => WOps P T nt all r e' M Kn
   ·cases hb
theorem S_allocT {t : TypeId} : WOps P T nt all ({ dst := some d, op := .alloc t, type := ty, pos := p, after := af, guard := none } :: r) e M Kn = (match T.ty t with
  | some y => (d < nt ∧ WOps P T nt all r ((d, .ptr M.H.length 0) :: e) (M.push (.obj (y.zero.map ofValue))) Kn)
  | none => False) := by
 rw [S_op (by intros; simp)]; simp only [vop]
 cases T.ty t <;> rfl
theorem S_mapUpdate {t : TypeId} {a k x : Operand} : WOps P T nt all ({ dst := none, op := .mapUpdate t a k x, type := ty, pos := p, after := af, guard := none } :: r) e M Kn = (match vmapUpdate T t (ev e a) (ev e k) (ev e x) M with
  | some M' => WOps P T nt all r e M' Kn
  | none => False) := by
 simp only [WOps, vwanted, WOp, vop, forall_const, reduceCtorEq, false_implies, and_true]
 cases vmapUpdate T t (ev e a) (ev e k) (ev e x) M <;> rfl
theorem S_makeMap {t : TypeId} : WOps P T nt all ({ dst := some d, op := .makeMap t none, type := ty, pos := p, after := af, guard := none } :: r) e M Kn = PutM P T nt all r Kn d e (match T.ty t with
  | some { d := .map kt _, .. } => match T.ty kt with
   | some ky => some (.mp M.H.length, M.push (.mpo (shOf ky) []))
   | none => none
  | _ => none) := by
 rw [S_op (by intros; simp)]; rfl
theorem S_max {x y : Operand} {ts : Array TypeId} : WOps P T nt all ({ dst := some d, op := .call { callee := .builtin .max, args := #[x, y], argTypes := ts }, type := ty, pos := p, after := af, guard := none } :: r) e M Kn = Put P T nt all r Kn d e M (vexts true (ev e x) [ev e y]) := by
 rw [S_op (by intros; simp)]; exact PutM_map
theorem S_min {x y : Operand} {ts : Array TypeId} : WOps P T nt all ({ dst := some d, op := .call { callee := .builtin .min, args := #[x, y], argTypes := ts }, type := ty, pos := p, after := af, guard := none } :: r) e M Kn = Put P T nt all r Kn d e M (vexts false (ev e x) [ev e y]) := by
 rw [S_op (by intros; simp)]; exact PutM_map
theorem S_nil : WOps P T nt all [] e M Kn = Kn e M := rfl
end
end Go.Proofs.YtnjgdlmddlinaaaDoor.Vm

/- The machine on values at work: functions at any input. -/
namespace Go.Proofs.YtnjgdlmddlinaaaDoor.Vm
open Go Go.Proofs

abbrev vi (n : Int) : VV := .p (.int .i64 n)
abbrev vb (b : Bool) : VV := .p (.bool b)
theorem vfinish_same {T : Tab} {f : Nat} {r : VV} {M : Mem} (hk : T.keeps f = false) (hlg : ∀ e ∈ M.lg, e.1 < M.H.length ∧ e.2 < M.H.length) (hr : ∀ x ∈ refs (frz M.H.length M.H r), x < M.H.length) : vfinish T f M.H.length r M = (frz M.H.length M.H r, M) := by
 have h1 : M.lg.filter (fun e => Nat.blt e.1 M.H.length) = M.lg := List.filter_eq_self.2 fun e he => by rw [Nat.blt_eq]; exact (hlg e he).1
 unfold vfinish
 rw [hk, h1]
 have h2 : (M.lg.all fun e => Nat.blt e.2 M.H.length) = true := List.all_eq_true.2 fun e he => by rw [Nat.blt_eq]; exact (hlg e he).2
 have h3 : ((refs (frz M.H.length M.H r)).all (Nat.blt · M.H.length)) = true := List.all_eq_true.2 fun x hx => by rw [Nat.blt_eq]; exact hr x hx
 rw [h2, h3]
 simp
theorem VC_plain {P : Program} {T : Tab} (hT : TabOk P T) {f : Nat} {fn : Func} {c : Code} {args : List VV} {M : Mem} {Q : VV → Prop} (hf : T.fn f = some fn) (hb : fn.body = some c) (hn : args.length ≤ fn.ntmps) (hk : T.keeps f = false)
  (h : WCode P ⟨f, none, fn.ntmps⟩ c (zipEnv 0 args) M [] (fun ex e M' D => (ex = .normal ∨ ex = .ret) ∧ M' = M ∧ D = [] ∧ ∃ vs, vresL T e M fn.results.toList = some vs ∧ (∀ x ∈ refs (frz M.H.length M.H (vtup vs)), x < M.H.length) ∧ Q (frz M.H.length M.H (vtup vs)))) :
  VC P f args M (fun r M' => M' = M ∧ Q r) := by
 refine VC_fn hT hf hb hn fun hlg => h.mono ?_
 rintro ex e M' D ⟨hex, rfl, rfl, vs, h1, h2, h3⟩
 have : retQ T f M'.H.length fn (fun r M1 => M1 = M' ∧ Q r) .ret e M' [] := by
  simp only [retQ, vkill]
  have hM : ({ M' with H := M'.H } : Mem) = M' := rfl
  rw [hM, h1]
  simp only
  rw [vfinish_same hk hlg h2]
  exact ⟨rfl, h3⟩
 rcases hex with rfl | rfl
 ·exact this
 ·exact this
theorem vbin_leq (T : Tab) (t : Nat) (a b : Int) : vbin T .leq t (vi a) (vi b) = some (vb (decide (a ≤ b))) := by
 exact fbin_ok T .leq t a b _ (by simp [fbin, leI_eq])
theorem vbin_geq (T : Tab) (t : Nat) (a b : Int) : vbin T .geq t (vi a) (vi b) = some (vb (decide (b ≤ a))) := by
 exact fbin_ok T .geq t a b _ (by simp [fbin, leI_eq])
end Go.Proofs.YtnjgdlmddlinaaaDoor.Vm

/- The types of the seat, as the machine on values knows them. -/
namespace Go.Proofs.YtnjgdlmddlinaaaDoor.Vm
open Go Go.Proofs

theorem t_int : T.ty 3 = some ⟨.int .i64, 1, [.int .i64 0], false, false⟩ := by kernel_rfl
theorem t_bool : T.ty 4 = some ⟨.bool, 1, [.bool false], false, false⟩ := by kernel_rfl
theorem t_errno : T.ty 31 = some ⟨.int .i64, 1, [.int .i64 0], false, false⟩ := by kernel_rfl
theorem t_cell : T.ty 24 = some ⟨.struct [(0, 1), (1, 1)], 2, [.int .i64 0, .int .i64 0], true, true⟩ := by kernel_rfl
theorem t_span : T.ty 51 = some ⟨.struct [(0, 1), (1, 1)], 2, [.int .i64 0, .int .i64 0], true, true⟩ := by kernel_rfl
theorem t_put : T.ty 37 = some ⟨.struct [(0, 2), (2, 1)], 3, [.int .i64 0, .int .i64 0, .int .i64 0], true, true⟩ := by kernel_rfl
theorem t_kind : T.ty 54 = some ⟨.struct [(0, 2), (2, 1), (3, 1), (4, 1), (5, 1)], 6, [.int .i64 0, .int .i64 0, .bool false, .slice none 0 0, .int .i64 0, .int .i64 0], true, false⟩ := by kernel_rfl
theorem t_hall : T.ty 28 = some ⟨.struct [(0, 1), (1, 1), (2, 1), (3, 1), (4, 2), (6, 1), (7, 1)], 8, [.int .i64 0, .int .i64 0, .slice none 0 0, .slice none 0 0, .int .i64 0, .int .i64 0, .slice none 0 0, .slice none 0 0], true, false⟩ := by kernel_rfl
theorem t_layout : T.ty 93 = some ⟨.struct [(0, 8), (8, 1), (9, 3)], 12, [.int .i64 0, .int .i64 0, .slice none 0 0, .slice none 0 0, .int .i64 0, .int .i64 0, .slice none 0 0, .slice none 0 0, .slice none 0 0, .int .i64 0, .int .i64 0, .int .i64 0], true, false⟩ := by kernel_rfl
theorem t_ints : T.ty 25 = some ⟨.slice 3 1 8, 1, [.slice none 0 0], false, false⟩ := by kernel_rfl
theorem t_cells : T.ty 22 = some ⟨.slice 24 2 16, 1, [.slice none 0 0], false, false⟩ := by kernel_rfl
theorem t_spans : T.ty 55 = some ⟨.slice 51 2 16, 1, [.slice none 0 0], false, false⟩ := by kernel_rfl
theorem t_puts : T.ty 34 = some ⟨.slice 37 3 24, 1, [.slice none 0 0], false, false⟩ := by kernel_rfl
theorem t_kinds : T.ty 26 = some ⟨.slice 54 6 64, 1, [.slice none 0 0], false, false⟩ := by kernel_rfl
theorem t_funcs : T.ty 95 = some ⟨.slice 94 1 8, 1, [.slice none 0 0], false, false⟩ := by kernel_rfl
theorem t_row : T.ty 72 = some ⟨.arr 6 3 1, 6, [.int .i64 0, .int .i64 0, .int .i64 0, .int .i64 0, .int .i64 0, .int .i64 0], true, false⟩ := by kernel_rfl
theorem t_floor : T.ty 74 = some ⟨.arr 4 72 6, 24, [.int .i64 0, .int .i64 0, .int .i64 0, .int .i64 0, .int .i64 0, .int .i64 0, .int .i64 0, .int .i64 0, .int .i64 0, .int .i64 0, .int .i64 0, .int .i64 0, .int .i64 0, .int .i64 0, .int .i64 0, .int .i64 0, .int .i64 0, .int .i64 0, .int .i64 0, .int .i64 0, .int .i64 0, .int .i64 0, .int .i64 0, .int .i64 0], true, false⟩ := by kernel_rfl
theorem t_floor0 : T.ty 73 = some ⟨.arr 4 72 6, 24, [.int .i64 0, .int .i64 0, .int .i64 0, .int .i64 0, .int .i64 0, .int .i64 0, .int .i64 0, .int .i64 0, .int .i64 0, .int .i64 0, .int .i64 0, .int .i64 0, .int .i64 0, .int .i64 0, .int .i64 0, .int .i64 0, .int .i64 0, .int .i64 0, .int .i64 0, .int .i64 0, .int .i64 0, .int .i64 0, .int .i64 0, .int .i64 0], true, false⟩ := by kernel_rfl
theorem t_cmap : T.ty 88 = some ⟨.map 24 4, 1, [.map none], false, false⟩ := by kernel_rfl
theorem t_imap : T.ty 96 = some ⟨.map 3 3, 1, [.map none], false, false⟩ := by kernel_rfl
theorem t_u64 : T.ty 114 = some ⟨.int .u64, 1, [.int .u64 0], false, false⟩ := by kernel_rfl
theorem t_uint : T.ty 124 = some ⟨.int .u64, 1, [.int .u64 0], false, false⟩ := by kernel_rfl
theorem t_err : T.ty 94 = some ⟨.other, 1, [.nilFunc], false, false⟩ := by kernel_rfl
theorem t_try : T.ty 71 = some ⟨.other, 1, [.nilFunc], false, false⟩ := by kernel_rfl
theorem t_playout : T.ty 91 = some ⟨.other, 1, [.pointer none], false, false⟩ := by kernel_rfl

theorem t_u8 : T.ty 5 = some ⟨.int .u8, 1, [.int .u8 0], false, false⟩ := by kernel_rfl
theorem t_str : T.ty 9 = some ⟨.str, 1, [.string ⟨#[]⟩], false, false⟩ := by kernel_rfl
theorem t_error : T.ty 81 = some ⟨.iface, 1, [.nilIface], false, false⟩ := by kernel_rfl
theorem t_build : T.ty 79 = some ⟨.struct [(0, 1), (1, 1)], 2, [.pointer none, .slice none 0 0], true, false⟩ := by kernel_rfl
theorem t_frow : T.ty 85 = some ⟨.other, 1, [.nilFunc], false, false⟩ := by kernel_rfl
theorem t_texts : T.ty 77 = some ⟨.slice 5 1 1, 1, [.slice none 0 0], false, false⟩ := by kernel_rfl
end Go.Proofs.YtnjgdlmddlinaaaDoor.Vm
