/- A part of the proofs about the chapter of the vaults; it states no condition of its own. -/
import Derived.Test.YtijcmgfblpokhaaB27
set_option linter.unusedVariables false
set_option linter.unusedSimpArgs false
/- A machine on values: what a program's types are. -/
namespace Go.Proofs.Ytijcmgfblpokhaa.Vm
open Go

def fieldsOf (P : Program) : List Field → Option (List (Nat × Nat))
  | [] => some []
  | f :: r => match P.info? f.type, fieldsOf P r with
    | some i, some fs => bif Nat.beq i.size 0 then none else some ((f.offset, i.size) :: fs)
    | _, _ => none
def tdOf (P : Program) (t : Nat) : Td := match P.underlying t with
  | some (.int k) => .int k
  | some .bool => .bool
  | some .string => .str
  | some (.slice e) => match P.info? e with
    | some i => match i.zero with
      | some z => bif Nat.beq z.cells.size i.size && (Nat.blt 0 i.size && Nat.blt 0 i.bytes) then .slice e i.size i.bytes else .other
      | none => .other
    | none => .other
  | some (.array n e) => match P.info? e with
    | some i => .arr n e i.size
    | none => .other
  | some (.map k e) => .map k e
  | some (.struct fields) => match fieldsOf P fields.toList with
    | some fs => .struct fs
    | none => .other
  | _ => .other
def aggOf (P : Program) (t : Nat) : Option Bool := match P.underlying t with
  | some (.struct _) => some true
  | some (.array _ _) => some true
  | some _ => some false
  | none => none
def zsOf : Value → List Value
  | .agg vs => vs.toList
  | v => [v]
def isAggV : Value → Bool
  | .agg _ => true
  | _ => false
def tyOf (P : Program) (cmp : Nat → Bool) (t : Nat) : Option Ty := match P.info? t with
  | some i => match i.zero with
    | some z => match aggOf P t with
      | some a => bif (a == isAggV z) && (Nat.beq (zsOf z).length i.size && ((zsOf z).all isOne && (a || Nat.beq i.size 1))) then some ⟨tdOf P t, i.size, zsOf z, a, cmp t⟩ else none
      | none => none
    | none => none
  | none => none

theorem fieldsOf_ok {P : Program} : ∀ {l : List Field} {fs : List (Nat × Nat)}, fieldsOf P l = some fs → l.length = fs.length ∧ ∀ (j : Nat) (f : Field), l[j]? = some f → ∃ i, P.info? f.type = some i ∧ fs[j]? = some (f.offset, i.size) ∧ i.size ≠ 0
  | [], fs, h => by cases h; exact ⟨rfl, fun j f h => by simp at h⟩
  | x :: r, fs, h => by
    simp only [fieldsOf] at h
    split at h
    · rename_i i fs' hi hf
      cases hb : Nat.beq i.size 0 with
      | true => rw [hb] at h; cases h
      | false =>
        rw [hb] at h
        cases h
        obtain ⟨h1, h2⟩ := fieldsOf_ok hf
        refine ⟨by simp [h1], fun j f hj => ?_⟩
        cases j with
        | zero =>
          cases hj
          exact ⟨i, hi, rfl, fun e => by rw [e] at hb; cases hb⟩
        | succ j => exact h2 j f (by simpa using hj)
    · cases h
theorem tdOf_ok (P : Program) (t : Nat) : TdOk P t (tdOf P t) := by
  unfold tdOf
  split
  · rename_i k h; exact h
  · rename_i h; exact h
  · rename_i h; exact h
  · rename_i e h
    split
    · rename_i i hi
      split
      · rename_i z hz
        cases hb : Nat.beq z.cells.size i.size && (Nat.blt 0 i.size && Nat.blt 0 i.bytes) with
        | false => exact trivial
        | true =>
          simp only [Bool.and_eq_true, Nat.blt_eq] at hb
          exact ⟨h, i, z, hi, rfl, rfl, hz, Nat.eq_of_beq_eq_true hb.1, hb.2.1, hb.2.2⟩
      · exact trivial
    · exact trivial
  · rename_i n e h
    split
    · rename_i i hi; exact ⟨h, i, hi, rfl⟩
    · exact trivial
  · rename_i k e h; exact h
  · rename_i fields h
    split
    · rename_i fs hf
      obtain ⟨h1, h2⟩ := fieldsOf_ok hf
      exact ⟨fields, h, by simpa using h1, fun j f hj => h2 j f (by simpa using hj)⟩
    · exact trivial
  · exact trivial
theorem tyOf_ok {P : Program} {cmp : Nat → Bool} (hc : ∀ t y, cmp t = true → tyOf P cmp t = some y → CmpOk P t y.size) {t : Nat} {y : Ty} (h : tyOf P cmp t = some y) : TyOk P t y := by
  have h0 := h
  unfold tyOf at h
  split at h
  · rename_i i hi
    split at h
    · rename_i z hz
      split at h
      · rename_i a ha
        cases hb : (a == isAggV z) && (Nat.beq (zsOf z).length i.size && ((zsOf z).all isOne && (a || Nat.beq i.size 1))) with
        | false => rw [hb] at h; cases h
        | true =>
          rw [hb] at h
          simp only [cond_true] at h
          cases h
          simp only [Bool.and_eq_true] at hb
          obtain ⟨b1, b2, b3, b4⟩ := hb
          have b1' : a = isAggV z := by simpa using b1
          refine ⟨⟨i, hi, rfl, ?_⟩, Nat.eq_of_beq_eq_true b2, fun v hv => List.all_eq_true.1 b3 v hv, fun e => ?_, ?_, tdOf_ok P t, fun e => hc t _ e h0⟩
          · rw [hz]
            unfold Ty.z
            subst b1'
            cases z <;> rfl
          · simp only at e
            rw [e] at b4
            simpa using Nat.eq_of_beq_eq_true b4
          · unfold aggOf at ha
            split at ha
            · rename_i d hd; cases ha; exact ⟨_, hd, rfl⟩
            · rename_i d e hd; cases ha; exact ⟨_, hd, rfl⟩
            · rename_i d h1 h2 hd
              cases ha
              refine ⟨d, hd, ?_⟩
              cases d <;> first | rfl | exact (h1 _ rfl).elim | exact (h2 _ _ rfl).elim
            · cases ha
      · cases h
    · cases h
  · cases h

def fnOf (P : Program) (f : Nat) : Option Func := match P.funcs[f]? with
  | some fn => bif !(fn.name == "runtime.NumGoroutine") && !(fn.body.isNone) then some fn else none
  | none => none
theorem fnOf_ok {P : Program} {f : Nat} {fn : Func} (h : fnOf P f = some fn) : P.funcs[f]? = some fn ∧ (fn.name == "runtime.NumGoroutine") = false ∧ fn.body.isNone = false := by
  unfold fnOf at h
  split at h
  · rename_i g hg
    cases hb : !(g.name == "runtime.NumGoroutine") && !(g.body.isNone) with
    | false => rw [hb] at h; cases h
    | true =>
      rw [hb] at h
      cases h
      simp only [Bool.and_eq_true, Bool.not_eq_true'] at hb
      exact ⟨hg, hb⟩
  · cases h
/-- a table of a program's -/
def tabOf (P : Program) (cmp : Nat → Bool) (vars : Nat → List Nat) (keeps : Nat → Bool) : Tab := { ty := tyOf P cmp, fn := fnOf P, vars := vars, keeps := keeps }
theorem tabOf_ok {P : Program} {cmp : Nat → Bool} {vars : Nat → List Nat} {keeps : Nat → Bool} (hc : ∀ t y, cmp t = true → tyOf P cmp t = some y → CmpOk P t y.size) (hm : P.follows .mixedOrders = true) : TabOk P (tabOf P cmp vars keeps) :=
  ⟨fun _ _ h => tyOf_ok hc h, fun _ _ h => fnOf_ok h, hm⟩

/-! ### what a function's own variables are, and plans of its regions -/
def opVars : List Oper → List Nat → List Nat → List Nat
  | [], _, acc => acc
  | o :: r, defs, acc => opVars r (match o.dst with
      | some d => d :: defs
      | none => defs) (((o.op.operands.toList.filterMap tmpOf).filter fun t => !(defs.any (Nat.beq t))) ++ acc)
def codeVars : Code → List Nat → List Nat
  | .region _ ops draw, acc => opVars ops.toList [] acc
  | .seq a b, acc => codeVars a (codeVars b acc)
  | .cond c a b, acc => (tmpOf c).toList ++ codeVars a (codeVars b acc)
  | .block _ a, acc => codeVars a acc
  | .loop a, acc => codeVars a acc
  | .rangeFunc g _ a b, acc => (tmpOf g).toList ++ codeVars a (codeVars b acc)
  | _, acc => acc
def dedup : List Nat → List Nat
  | [] => []
  | x :: r => bif r.any (Nat.beq x) then dedup r else x :: dedup r
def resVars : List ResultVar → List Nat
  | [] => []
  | .tmp t :: r => t :: resVars r
  | .cell a _ :: r => a :: resVars r
def varsOf (P : Program) (f : Nat) : List Nat := match P.funcs[f]? with
  | some fn => match fn.body with
    | some c => dedup (resVars fn.results.toList ++ codeVars c [])
    | none => []
  | none => []
end Go.Proofs.Ytijcmgfblpokhaa.Vm
