/- A part of the proofs about the chapter of the doors; it states no condition of its own. -/
import Derived.Test.YtmagiabapakhcaaB27
set_option linter.unusedVariables false
set_option linter.unusedSimpArgs false
/- A machine on values: closed runs, of code that is taken apart once. -/
namespace Go.Proofs.Ytmagiabapakhcaa.Vm
open Go

structure OpdC where
  run : Tr → VV
noncomputable def nthV (H : List VV) : Nat → Option VV := List.rec (motive := fun _ => Nat → Option VV) (fun _ => none) (fun o _ ih i => cond (Nat.beq i 0) (some o) (ih (Nat.sub i 1))) H
section
variable (T : Tab) (acc : Operand → OpdC)
noncomputable def loadCells (y : Ty) (cs : List VV) (off : Nat) : Option VV :=
  bif y.agg then (bif Nat.ble (Nat.add off y.size) cs.length then some (.agg (((cs.drop off).take y.size).map strip1)) else none) else nthV cs off
end

section
variable (T : Tab)
end
end Go.Proofs.Ytmagiabapakhcaa.Vm

/- A machine on values: closed runs, of code that is taken apart once: drawn regions and code. -/
namespace Go.Proofs.Ytmagiabapakhcaa.Vm
open Go

section
variable (T : Tab)
variable (lf : Nat)
end
end Go.Proofs.Ytmagiabapakhcaa.Vm
