/- A part of the proofs about the chapter of the vaults; it states no condition of its own. -/
import Derived.Test.YtnjgdlmddlinaaaDoorB09
set_option linter.unusedVariables false
set_option linter.unusedSimpArgs false
/- A machine on values: what a program's types are. -/
namespace Go.Proofs.YtnjgdlmddlinaaaDoor.Vm
open Go

def fieldsOf (P : Program) : List Field → Option (List (Nat × Nat))
 | [] => some []
 | f :: r => match P.info? f.type, fieldsOf P r with
  | some i, some fs => bif Nat.beq i.size 0 then none else some ((f.offset, i.size) :: fs)
  | _, _ => none
def tdOf (P : Program) (t : Nat) : Td := match P.underlying t with
 | some (.int k) => .int k
 | some .bool => .bool
 | some .string => .str
 | some (.slice e) => match P.info? e with
  | some i => match i.zero with
   | some z => bif Nat.beq z.cells.size i.size && (Nat.blt 0 i.size && Nat.blt 0 i.bytes) then .slice e i.size i.bytes else .other
   | none => .other
  | none => .other
 | some (.array n e) => match P.info? e with
  | some i => .arr n e i.size
  | none => .other
 | some (.map k e) => .map k e
 | some (.struct fields) => match fieldsOf P fields.toList with
  | some fs => .struct fs
  | none => .other
 | some (.interface _) => .iface
 | _ => .other
def aggOf (P : Program) (t : Nat) : Option Bool := match P.underlying t with
 | some (.struct _) => some true
 | some (.array _ _) => some true
 | some _ => some false
 | none => none
def zsOf : Value → List Value
 | .agg vs => vs.toList
 | v => [v]
def isAggV : Value → Bool
 | .agg _ => true
 | _ => false
def tyOf (P : Program) (cmp : Nat → Bool) (t : Nat) : Option Ty := match P.info? t with
 | some i => match i.zero with
  | some z => match aggOf P t with
   | some a => bif (a == isAggV z) && (Nat.beq (zsOf z).length i.size && ((zsOf z).all isOne && (a || Nat.beq i.size 1))) then some ⟨tdOf P t, i.size, zsOf z, a, cmp t⟩ else none
   | none => none
  | none => none
 | none => none

theorem fieldsOf_ok {P : Program} : ∀ {l : List Field} {fs : List (Nat × Nat)}, fieldsOf P l = some fs → l.length = fs.length ∧ ∀ (j : Nat) (f : Field), l[j]? = some f → ∃ i, P.info? f.type = some i ∧ fs[j]? = some (f.offset, i.size) ∧ i.size ≠ 0
 | [], fs, h => by cases h; exact ⟨rfl, fun j f h => by simp at h⟩
 | x :: r, fs, h => by
  simp only [fieldsOf] at h
  split at h
  ·rename_i i fs' hi hf
   cases hb : Nat.beq i.size 0 with
   | true => rw [hb] at h; cases h
   | false =>
    rw [hb] at h
    cases h
    obtain ⟨h1, h2⟩ := fieldsOf_ok hf
    refine ⟨by simp [h1], fun j f hj => ?_⟩
    cases j with
    | zero =>
     cases hj
     exact ⟨i, hi, rfl, fun e => by rw [e] at hb; cases hb⟩
    | succ j => exact h2 j f (by simpa using hj)
  ·cases h
theorem tdOf_ok (P : Program) (t : Nat) : TdOk P t (tdOf P t) := by
 unfold tdOf
 split
 ·rename_i k h; exact h
 ·rename_i h; exact h
 ·rename_i h; exact h
 ·rename_i e h
  split
  ·rename_i i hi
   split
   ·rename_i z hz
    cases hb : Nat.beq z.cells.size i.size && (Nat.blt 0 i.size && Nat.blt 0 i.bytes) with
    | false => exact trivial
    | true =>
     simp only [Bool.and_eq_true, Nat.blt_eq] at hb
     exact ⟨h, i, z, hi, rfl, rfl, hz, Nat.eq_of_beq_eq_true hb.1, hb.2.1, hb.2.2⟩
   ·exact trivial
  ·exact trivial
 ·rename_i n e h
  split
  ·rename_i i hi; exact ⟨h, i, hi, rfl⟩
  ·exact trivial
 ·rename_i k e h; exact h
 ·rename_i fields h
  split
  ·rename_i fs hf
   obtain ⟨h1, h2⟩ := fieldsOf_ok hf
   exact ⟨fields, h, by simpa using h1, fun j f hj => h2 j f (by simpa using hj)⟩
  ·exact trivial
 ·rename_i ms h; exact ⟨ms, h⟩
 ·exact trivial
theorem tyOf_ok {P : Program} {cmp : Nat → Bool} (hc : ∀ t y, cmp t = true → tyOf P cmp t = some y → CmpOk P t y.size) {t : Nat} {y : Ty} (h : tyOf P cmp t = some y) : TyOk P t y := by
 have h0 := h
 unfold tyOf at h
 split at h
 ·rename_i i hi
  split at h
  ·rename_i z hz
   split at h
   ·rename_i a ha
    cases hb : (a == isAggV z) && (Nat.beq (zsOf z).length i.size && ((zsOf z).all isOne && (a || Nat.beq i.size 1))) with
    | false => rw [hb] at h; cases h
    | true =>
     rw [hb] at h
     simp only [cond_true] at h
     cases h
     simp only [Bool.and_eq_true] at hb
     obtain ⟨b1, b2, b3, b4⟩ := hb
     have b1' : a = isAggV z := by simpa using b1
     refine ⟨⟨i, hi, rfl, ?_⟩, Nat.eq_of_beq_eq_true b2, fun v hv => List.all_eq_true.1 b3 v hv, fun e => ?_, ?_, tdOf_ok P t, fun e => hc t _ e h0⟩
     ·rw [hz]
      unfold Ty.z
      subst b1'
      cases z <;> rfl
     ·simp only at e
      rw [e] at b4
      simpa using Nat.eq_of_beq_eq_true b4
     ·unfold aggOf at ha
      split at ha
      ·rename_i d hd; cases ha; exact ⟨_, hd, rfl⟩
      ·rename_i d e hd; cases ha; exact ⟨_, hd, rfl⟩
      ·rename_i d h1 h2 hd
       cases ha
       refine ⟨d, hd, ?_⟩
       cases d <;> first | rfl | exact (h1 _ rfl).elim | exact (h2 _ _ rfl).elim
      ·cases ha
   ·cases h
  ·cases h
 ·cases h

def fnOf (P : Program) (f : Nat) : Option Func := match P.funcs[f]? with
 | some fn => bif !(fn.name == "runtime.NumGoroutine") && !(fn.body.isNone) then some fn else none
 | none => none
theorem fnOf_ok {P : Program} {f : Nat} {fn : Func} (h : fnOf P f = some fn) : P.funcs[f]? = some fn ∧ (fn.name == "runtime.NumGoroutine") = false ∧ fn.body.isNone = false := by
 unfold fnOf at h
 split at h
 ·rename_i g hg
  cases hb : !(g.name == "runtime.NumGoroutine") && !(g.body.isNone) with
  | false => rw [hb] at h; cases h
  | true =>
   rw [hb] at h
   cases h
   simp only [Bool.and_eq_true, Bool.not_eq_true'] at hb
   exact ⟨hg, hb⟩
 ·cases h
def tabOf (P : Program) (cmp : Nat → Bool) (vars : Nat → List Nat) (keeps : Nat → Bool) : Tab := { ty := tyOf P cmp, fn := fnOf P, vars := vars, keeps := keeps }
theorem tabOf_ok {P : Program} {cmp : Nat → Bool} {vars : Nat → List Nat} {keeps : Nat → Bool} (hc : ∀ t y, cmp t = true → tyOf P cmp t = some y → CmpOk P t y.size) (hm : P.follows .mixedOrders = true) : TabOk P (tabOf P cmp vars keeps) :=
 ⟨fun _ _ h => tyOf_ok hc h, fun _ _ h => fnOf_ok h, hm⟩

/-! ### what a function's own variables are, and plans of its regions -/
def opVars : List Oper → List Nat → List Nat → List Nat
 | [], _, acc => acc
 | o :: r, defs, acc => opVars r (match o.dst with
   | some d => d :: defs
   | none => defs) (((o.op.operands.toList.filterMap tmpOf).filter fun t => !(defs.any (Nat.beq t))) ++ acc)
def codeVars : Code → List Nat → List Nat
 | .region _ ops draw, acc => opVars ops.toList [] acc
 | .seq a b, acc => codeVars a (codeVars b acc)
 | .cond c a b, acc => (tmpOf c).toList ++ codeVars a (codeVars b acc)
 | .block _ a, acc => codeVars a acc
 | .loop a, acc => codeVars a acc
 | .rangeFunc g _ a b, acc => (tmpOf g).toList ++ codeVars a (codeVars b acc)
 | _, acc => acc
def dedup : List Nat → List Nat
 | [] => []
 | x :: r => bif r.any (Nat.beq x) then dedup r else x :: dedup r
def resVars : List ResultVar → List Nat
 | [] => []
 | .tmp t :: r => t :: resVars r
 | .cell a _ :: r => a :: resVars r
def varsOf (P : Program) (f : Nat) : List Nat := match P.funcs[f]? with
 | some fn => match fn.body with
  | some c => dedup (resVars fn.results.toList ++ codeVars c [])
  | none => []
 | none => []
end Go.Proofs.YtnjgdlmddlinaaaDoor.Vm

/- A machine on values: closed runs are true. -/
namespace Go.Proofs.YtnjgdlmddlinaaaDoor.Vm
open Go

def Rp (τ : Tr) (e : Env) : Prop := ∀ t, tget τ t = get e t
theorem Rp.ev {τ : Tr} {e : Env} (h : Rp τ e) : tev τ = Vm.ev e := by
 funext x
 cases x with
 | tmp t => exact h t
 | _ => rfl
theorem Rp.put {τ τ' : Tr} {e : Env} {nt : Nat} {dst : Option Nat} {v : VV} (h : Rp τ e) (hp : vputT nt dst v τ = some τ') : ∃ e', vput nt dst v e = some e' ∧ Rp τ' e' := by
 unfold vputT at hp
 unfold vput
 cases dst with
 | none => cases hp; exact ⟨e, rfl, h⟩
 | some d =>
  simp only at hp ⊢
  cases hb : Nat.blt d nt && Nat.blt d 4000 with
  | false => rw [hb] at hp; cases hp
  | true =>
   rw [hb] at hp
   cases hp
   simp only [Bool.and_eq_true, Nat.blt_eq] at hb
   rw [show Nat.blt d nt = true by rw [Nat.blt_eq]; exact hb.1]
   refine ⟨(d, v) :: e, rfl, fun t => ?_⟩
   rw [tget_tset _ _ _ _ _ (by omega), get_cons, h t]
section
variable {P : Program} {T : Tab} {lf : Nat} {call : CallT} {again : AgainT}

theorem WOp.mono {o : Oper} {e : Env} {M : Mem} {Q Q' : VV → Mem → Prop} (h : WOp P T o e M Q) (hq : ∀ v M', Q v M' → Q' v M') : WOp P T o e M Q' := by
 unfold WOp at *
 split at h
 ·rename_i hop; exact VCall.mono h hq
 ·rename_i hno
  split at h
  ·rename_i v M' hv
   exact hq _ _ h
  ·cases h
inductive PdRel : PdsB → Pds → Prop
 | nil : PdRel [] []
 | cons {n : Nat} {c : Mem → Bool} {c' : Mem → Prop} {pd : PdsB} {pd' : Pds} : (∀ M, c M = true → c' M) → PdRel pd pd' → PdRel ((n, c) :: pd) ((n, c') :: pd')
theorem PdRel.ok {pd : PdsB} {pd' : Pds} (h : PdRel pd pd') {M : Mem} (hb : pdOkB pd M = true) : pdOk pd' M := by
 induction h with
 | nil => trivial
 | cons hc h ih =>
  simp only [pdOkB, Bool.and_eq_true] at hb
  exact ⟨hc M hb.1, ih hb.2⟩
theorem PdRel.push {pd : PdsB} {pd' : Pds} (h : PdRel pd pd') (n : Nat) {c : Mem → Bool} {c' : Mem → Prop} (hc : ∀ M, c M = true → c' M) : PdRel (pdPushB n c pd) (pdPush n c' pd') := by
 cases n with
 | zero => exact h
 | succ n => exact .cons hc h

theorem WOps.mono {nt : Nat} {all : Array Oper} {Kn Kn' : Env → Mem → Prop} (hk : ∀ e M, Kn e M → Kn' e M) : ∀ {l : List Oper} {e : Env} {M : Mem}, WOps P T nt all l e M Kn → WOps P T nt all l e M Kn'
 | [], _, _, h => hk _ _ h
 | o :: r, e, M, h => by
  simp only [WOps] at h ⊢
  split at h
  ·cases h
  ·refine ⟨fun hb => WOp.mono (h.1 hb) fun v M' hq => ?_, fun hb => ?_⟩
   ·split at hq
    ·exact WOps.mono hk hq
    ·cases hq
   ·have := h.2 hb
    split at this
    ·exact WOps.mono hk this
    ·cases this
theorem WDraw.mono {nt : Nat} {ops : Array Oper} {Kn Kn' : Env → Mem → Prop} (hk : ∀ e M, Kn e M → Kn' e M) : ∀ {l : List Oper} {infs : List Info} {e : Env} {na : Nat} {M : Mem} {past : List Mem} {pd : Pds}, WDraw P T nt ops l infs e na M past pd Kn → WDraw P T nt ops l infs e na M past pd Kn'
 | [], [], _, _, _, _, _, h => by
  simp only [WDraw] at h ⊢
  exact hk _ _ h
 | o :: r, inf :: s, e, na, M, past, pd, h => by
  simp only [WDraw] at h ⊢
  split at h
  ·cases h
  ·split at h
   ·split at h
    ·rename_i he
     rw [if_pos he]
     exact ⟨h.1, WDraw.mono hk h.2⟩
    ·rename_i he
     rw [if_neg he]
     exact WDraw.mono hk h
   ·cases h
  ·split at h
   ·rename_i hA
    rw [if_pos hA]
    split at h
    ·split at h
     ·split at h
      ·exact ⟨h.1, h.2.1, WDraw.mono hk h.2.2⟩
      ·cases h
     ·cases h
    ·cases h
   ·rename_i hA
    rw [if_neg hA]
    split at h
    ·rename_i he
     rw [if_pos he]
     obtain ⟨v, M', h1, h2, h3⟩ := h
     refine ⟨v, M', h1, h2, ?_⟩
     split at h3
     ·exact WDraw.mono hk h3
     ·cases h3
    ·rename_i he
     rw [if_neg he]
     split at h
     ·refine ⟨h.1, ?_⟩
      have h := h.2
      split at h
      ·split at h
       ·rename_i hr
        rw [if_pos hr]
        exact ⟨h.1, WDraw.mono hk h.2⟩
       ·rename_i hr
        rw [if_neg hr]
        exact WDraw.mono hk h
      ·cases h
     ·cases h
 | [], _ :: _, _, _, _, _, _, h => by simp [WDraw] at h
 | _ :: _, [], _, _, _, _, _, h => by simp [WDraw] at h

end
end Go.Proofs.YtnjgdlmddlinaaaDoor.Vm

/- A machine on values: closed runs, of code that is taken apart once. -/
namespace Go.Proofs.YtnjgdlmddlinaaaDoor.Vm
open Go

structure OpdC where
 run : Tr → VV
noncomputable def nthV (H : List VV) : Nat → Option VV := List.rec (motive := fun _ => Nat → Option VV) (fun _ => none) (fun o _ ih i => cond (Nat.beq i 0) (some o) (ih (Nat.sub i 1))) H
section
variable (T : Tab) (acc : Operand → OpdC)
noncomputable def loadCells (y : Ty) (cs : List VV) (off : Nat) : Option VV :=
 bif y.agg then (bif Nat.ble (Nat.add off y.size) cs.length then some (.agg (((cs.drop off).take y.size).map strip1)) else none) else nthV cs off
end

section
variable (T : Tab)
end
end Go.Proofs.YtnjgdlmddlinaaaDoor.Vm
