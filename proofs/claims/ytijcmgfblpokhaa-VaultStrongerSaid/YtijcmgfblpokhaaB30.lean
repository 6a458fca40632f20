/- A part of the proofs about the chapter of the vaults; it states no condition of its own. -/
import Derived.Test.YtijcmgfblpokhaaB29
set_option linter.unusedVariables false
set_option linter.unusedSimpArgs false
/- A machine on values: closed runs, of code that is taken apart once. -/
namespace Go.Proofs.Ytijcmgfblpokhaa.Vm
open Go

structure OpdC where
  run : Tr → VV
structure OpC where
  run : Tr → Mem → Option (VV × Mem)
structure StepC where
  run : CallT → AgainT → Nat → Tr → Mem → Option (Tr × Mem)
structure DrawC where
  run : CallT → AgainT → Nat → Tr → Nat → Mem → List Mem → PdsB → Option (Tr × Mem)
structure CodeC where
  run : CallT → AgainT → Cx → Tr → Mem → List Nat → Option Res
structure BinC where
  run : Int → Int → Option VV

noncomputable def opdC (x : Operand) : OpdC := match x with
  | .tmp t => ⟨fun τ => tget τ t⟩
  | .const v => ⟨fun _ => ofValue v⟩
  | .global _ => ⟨fun _ => .any⟩
  | .func f => ⟨fun _ => .fn (.func f) [] []⟩
theorem opdC_eq (x : Operand) (τ : Tr) : (opdC x).run τ = tev τ x := by cases x <;> rfl
noncomputable def ropdC (ts : List Nat) (x : Operand) : OpdC := match x with
  | .tmp t => cond (ts.any (Nat.beq t)) ⟨fun τ => tget τ t⟩ ⟨fun _ => .any⟩
  | .const v => ⟨fun _ => ofValue v⟩
  | .global _ => ⟨fun _ => .any⟩
  | .func f => ⟨fun _ => .fn (.func f) [] []⟩
theorem ropdC_eq (ts : List Nat) (x : Operand) (τ : Tr) : (ropdC ts x).run τ = rev ts τ x := by
  cases x with
  | tmp t =>
    simp only [ropdC, rev, rget]
    cases ts.any (Nat.beq t) <;> rfl
  | _ => rfl
def fbC (op : BinOp) : BinC := match op with
  | .add => ⟨fun a b => some (.p (.int .i64 (wrap64 (Int.add a b))))⟩
  | .sub => ⟨fun a b => some (.p (.int .i64 (wrap64 (Int.sub a b))))⟩
  | .mul => ⟨fun a b => some (.p (.int .i64 (wrap64 (Int.mul a b))))⟩
  | .eql => ⟨fun a b => some (.p (.bool (eqI a b)))⟩
  | .neq => ⟨fun a b => some (.p (.bool (not (eqI a b))))⟩
  | .lss => ⟨fun a b => some (.p (.bool (not (leI b a))))⟩
  | .leq => ⟨fun a b => some (.p (.bool (leI a b)))⟩
  | .gtr => ⟨fun a b => some (.p (.bool (not (leI a b))))⟩
  | .geq => ⟨fun a b => some (.p (.bool (leI b a)))⟩
  | _ => ⟨fun _ _ => none⟩
theorem fbC_eq (op : BinOp) (a b : Int) : (fbC op).run a b = fbin op a b := by cases op <;> rfl

noncomputable def nthH (H : List VObj) : Nat → Option VObj := List.rec (motive := fun _ => Nat → Option VObj) (fun _ => none) (fun o _ ih i => cond (Nat.beq i 0) (some o) (ih (Nat.sub i 1))) H
theorem nthH_eq : ∀ (H : List VObj) (i : Nat), nthH H i = H[i]?
  | [], i => by simp [nthH]
  | o :: H, i => by
    have ih := nthH_eq H
    show cond (Nat.beq i 0) (some o) (nthH H (Nat.sub i 1)) = _
    cases i with
    | zero => rfl
    | succ i => rw [ih]; rfl
noncomputable def nthV (H : List VV) : Nat → Option VV := List.rec (motive := fun _ => Nat → Option VV) (fun _ => none) (fun o _ ih i => cond (Nat.beq i 0) (some o) (ih (Nat.sub i 1))) H
theorem nthV_eq : ∀ (H : List VV) (i : Nat), nthV H i = H[i]?
  | [], i => by simp [nthV]
  | o :: H, i => by
    have ih := nthV_eq H
    show cond (Nat.beq i 0) (some o) (nthV H (Nat.sub i 1)) = _
    cases i with
    | zero => rfl
    | succ i => rw [ih]; rfl

section
variable (T : Tab) (acc : Operand → OpdC)
def slowOp (op : Go.Op) (τ : Tr) (M : Mem) : Option (VV × Mem) := vop T op (fun x => (acc x).run τ) M
def mvC (a : OpdC) : OpC := ⟨fun τ M => some (a.run τ, M)⟩
def noC : OpC := ⟨fun _ _ => none⟩
def binSlow (op : Go.Op) (τ : Tr) (M : Mem) : Option VV → Option (VV × Mem)
  | some v => some (v, M)
  | none => slowOp T acc op τ M
def bin2 (op : Go.Op) (bc : BinC) (a : Int) (y : VV) (τ : Tr) (M : Mem) : Option (VV × Mem) := match y with
  | .p (.int .i64 b) => binSlow T acc op τ M (bc.run a b)
  | _ => slowOp T acc op τ M
def bin1 (op : Go.Op) (bc : BinC) (x : VV) (cy : OpdC) (τ : Tr) (M : Mem) : Option (VV × Mem) := match x with
  | .p (.int .i64 a) => bin2 T acc op bc a (cy.run τ) τ M
  | _ => slowOp T acc op τ M
def field1 (o : Nat) (v : VV) (M : Mem) : Option (VV × Mem) := match v with
  | .ptr id off => some (.ptr id (Nat.add off o), M)
  | .ip cs => some (.ip (cs.drop o), M)
  | .iv cs => some (.iv (cs.drop o), M)
  | _ => none
def nil1 (v : VV) (M : Mem) : Option (VV × Mem) := match v with
  | .ptr id off => some (.ptr id off, M)
  | .ip cs => some (.ip cs, M)
  | .iv cs => some (.iv cs, M)
  | _ => none
noncomputable def loadCells (y : Ty) (cs : List VV) (off : Nat) : Option VV :=
  bif y.agg then (bif Nat.ble (Nat.add off y.size) cs.length then some (.agg (((cs.drop off).take y.size).map strip1)) else none) else nthV cs off
noncomputable def loadObj (y : Ty) (off : Nat) : Option VObj → Option VV
  | some (.obj cs) => loadCells y cs off
  | _ => none
noncomputable def loadV (y : Ty) (a : VV) (M : Mem) : Option VV := match a with
  | .ptr id off => loadObj y off (nthH M.H id)
  | .ip cs => bif y.agg then (bif Nat.ble y.size cs.length then some (.agg ((cs.take y.size).map .p)) else none) else (cs[0]?).map .p
  | .iv cs => bif y.agg then (bif Nat.ble y.size cs.length then some (.agg ((cs.take y.size).map strip1)) else none) else cs[0]?
  | _ => none
def withM (M : Mem) : Option VV → Option (VV × Mem)
  | some v => some (v, M)
  | none => none
noncomputable def compOp (op : Go.Op) : OpC := match op with
  | .move x => mvC (acc x)
  | .assign x => mvC (acc x)
  | .binOp bop t x y yt => ⟨fun τ M => bin1 T acc (.binOp bop t x y yt) (fbC bop) ((acc x).run τ) (acc y) τ M⟩
  | .nilCheck x => ⟨fun τ M => nil1 ((acc x).run τ) M⟩
  | .load t a => (match T.ty t with
    | some y => ⟨fun τ M => withM M (loadV y ((acc a).run τ) M)⟩
    | none => noC)
  | .fieldAddr t x f => (match T.ty t with
    | some y => (match y.d with
      | .struct fs => (match fs[f]? with
        | some (o, _) => ⟨fun τ M => field1 o ((acc x).run τ) M⟩
        | none => noC)
      | _ => noC)
    | none => noC)
  | op => ⟨fun τ M => slowOp T acc op τ M⟩
theorem withM_eq (M : Mem) (v : Option VV) : withM M v = v.map (·, M) := by cases v <;> rfl
theorem loadV_eq {t : Nat} {y : Ty} (h : T.ty t = some y) (a : VV) (M : Mem) : loadV y a M = vload T t a M := by
  unfold loadV vload
  rw [h]
  cases a with
  | ptr id off =>
    simp only [nthH_eq]
    unfold loadObj
    split
    · rename_i cs hcs
      simp only [hcs]
      unfold loadCells
      rw [nthV_eq]
      rfl
    · rename_i hno
      split
      · rename_i cs hcs; exact absurd hcs (hno cs)
      · rfl
  | _ => rfl
theorem compOp_eq (op : Go.Op) (τ : Tr) (M : Mem) : (compOp T acc op).run τ M = vop T op (fun x => (acc x).run τ) M := by
  unfold compOp
  split
  · rfl
  · rfl
  · rename_i bop t x y yt
    show bin1 T acc _ _ _ _ _ _ = _
    unfold bin1
    split
    · rename_i a ha
      unfold bin2
      split
      · rename_i b hb
        rw [fbC_eq]
        unfold binSlow
        split
        · rename_i v hv
          simp only [vop, ha, hb, fbin_ok T bop t a b _ hv, Option.map_some]
        · rfl
      · rfl
    · rfl
  · rename_i x
    show nil1 _ _ = _
    unfold nil1
    simp only [vop]
    cases (acc x).run τ <;> rfl
  · rename_i t a
    split
    · rename_i y hy
      simp only [vop]
      rw [withM_eq, loadV_eq T hy]
    · rename_i hy
      simp only [vop, vload, hy]
      rfl
  · rename_i t x f
    simp only [vop, vfieldAddr]
    split
    · rename_i y hy
      obtain ⟨d, sz, zs, ag, cm⟩ := y
      rw [hy]
      cases d with
      | struct fs =>
        simp only
        split
        · rename_i o sz' hf
          simp only [hf]
          unfold field1
          cases (acc x).run τ <;> rfl
        · rename_i hf
          simp only [hf]
          rfl
      | _ => rfl
    · rename_i hy
      rw [hy]
      rfl
  · rfl
end

section
variable (T : Tab)
def runAll : List OpdC → Tr → List VV
  | [], _ => []
  | a :: r, τ => a.run τ :: runAll r τ
theorem runAll_eq {acc : Operand → OpdC} {ρ : Operand → VV} (τ : Tr) (h : ∀ x, (acc x).run τ = ρ x) : ∀ l : List Operand, runAll (l.map acc) τ = l.map ρ
  | [] => rfl
  | x :: l => by simp [runAll, h, runAll_eq τ h l]
structure WopC where
  run : CallT → AgainT → Tr → Mem → Option (VV × Mem)
noncomputable def compWop (acc : Operand → OpdC) (op : Go.Op) : WopC := match op with
  | .call { callee := .value f, args, .. } => ⟨fun call again τ M => vcallv T call again ((acc f).run τ) (runAll (args.toList.map acc) τ) M⟩
  | op => ⟨fun _ _ τ M => (compOp T acc op).run τ M⟩
theorem compWop_eq (acc : Operand → OpdC) {ρ : Operand → VV} {τ : Tr} (h : ∀ x, (acc x).run τ = ρ x) (o : Oper) (call : CallT) (again : AgainT) (M : Mem) : (compWop T acc o.op).run call again τ M = vwop T call again o ρ M := by
  have hρ : (fun x => (acc x).run τ) = ρ := funext h
  unfold compWop vwop
  split
  · rename_i f args types hop
    simp only [hop, h, runAll_eq τ h]
  · rename_i hno
    show (compOp T acc o.op).run τ M = _
    rw [compOp_eq, hρ]
    split
    · rename_i f args types hop
      exact absurd hop (hno _ _ _)
    · rw [vopF_eq]
def putK (dst : Option Nat) (nt : Nat) (τ : Tr) : Option (VV × Mem) → Option (Tr × Mem)
  | some (v, M) => (match dst with
    | none => some (τ, M)
    | some d => bif Nat.blt d nt && Nat.blt d 4000 then some (tset 12 τ d v, M) else none)
  | none => none
noncomputable def compStep (all : Array Oper) (o : Oper) : StepC := match o.guard with
  | none => ⟨fun call again nt τ M => putK o.dst nt τ ((compWop T opdC o.op).run call again τ M)⟩
  | some _ => ⟨fun call again nt τ M => match wantedOf all o (tget τ) with
    | some true => putK o.dst nt τ ((compWop T opdC o.op).run call again τ M)
    | some false => putK o.dst nt τ (some (.tup [], M))
    | none => none⟩
noncomputable def compOps (all : Array Oper) : List Oper → StepC
  | [] => ⟨fun _ _ _ τ M => some (τ, M)⟩
  | o :: r => ⟨fun call again nt τ M => match (compStep T all o).run call again nt τ M with
    | some (τ', M') => (compOps all r).run call again nt τ' M'
    | none => none⟩
theorem putK_eq (dst : Option Nat) (nt : Nat) (τ : Tr) (v : VV) (M : Mem) {α : Type} (k : Tr → Mem → Option α) : (match putK dst nt τ (some (v, M)) with
    | some (τ', M') => k τ' M'
    | none => none) = (match vputT nt dst v τ with
    | some τ' => k τ' M
    | none => none) := by
  unfold putK vputT
  cases dst with
  | none => rfl
  | some d => simp only; cases Nat.blt d nt && Nat.blt d 4000 <;> rfl
theorem compOps_eq (all : Array Oper) (call : CallT) (again : AgainT) (nt : Nat) : ∀ (l : List Oper) (τ : Tr) (M : Mem), (compOps T all l).run call again nt τ M = vops T call again nt all l τ M
  | [], τ, M => rfl
  | o :: r, τ, M => by
    have hw := compWop_eq T opdC (ρ := tev τ) (fun x => opdC_eq x τ) o call again M
    have hmain : (compStep T all o).run call again nt τ M = (match wantedOf all o (tget τ) with
        | some true => putK o.dst nt τ ((compWop T opdC o.op).run call again τ M)
        | some false => putK o.dst nt τ (some (.tup [], M))
        | none => none) := by
      obtain ⟨dst, op, type, pos, after, guard⟩ := o
      cases guard with
      | none => rfl
      | some p => rfl
    simp only [compOps, vops, forceV_eq, forceM_eq]
    rw [hmain]
    cases hg : wantedOf all o (tget τ) with
    | none => rfl
    | some b =>
      cases b with
      | true =>
        simp only
        rw [hw]
        cases hv : vwop T call again o (tev τ) M with
        | none => rfl
        | some p =>
          obtain ⟨v, M'⟩ := p
          simp only
          rw [putK_eq]
          cases vputT nt o.dst v τ with
          | none => rfl
          | some τ' => exact compOps_eq all call again nt r τ' M'
      | false =>
        simp only
        rw [putK_eq]
        cases vputT nt o.dst (.tup []) τ with
        | none => rfl
        | some τ' => exact compOps_eq all call again nt r τ' M
end
end Go.Proofs.Ytijcmgfblpokhaa.Vm
