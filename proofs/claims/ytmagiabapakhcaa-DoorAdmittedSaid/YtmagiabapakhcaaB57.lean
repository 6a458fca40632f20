/- A part of the proofs about the chapter of the doors; it states no condition of its own. -/
import Derived.Test.YtmagiabapakhcaaB55
import Derived.Test.YtmagiabapakhcaaB56
set_option linter.unusedVariables false
set_option linter.unusedSimpArgs false
/- Who may be inside, plain: the spans are tight. -/
namespace Go.Proofs.Ytmagiabapakhcaa
open Vm
section
variable {first : Sp} {C : Nat → Sp} {T : Nat}
end
end Go.Proofs.Ytmagiabapakhcaa

/- Who may be inside, plain: the tallies are the spans. -/
namespace Go.Proofs.Ytmagiabapakhcaa
open Vm
theorem flatMap_few {α β : Type} {f : α → List β} {k : Nat} : ∀ l : List α, (∀ x ∈ l, (f x).length ≤ k) → (l.flatMap f).length ≤ l.length * k
 | [], _ => by simp
 | x :: l, h => by
  have h1 := h x (List.mem_cons_self ..)
  have h2 := flatMap_few l fun y hy => h y (List.mem_cons_of_mem _ hy)
  rw [List.flatMap_cons, List.length_append, List.length_cons, Nat.succ_mul]
  omega
end Go.Proofs.Ytmagiabapakhcaa
