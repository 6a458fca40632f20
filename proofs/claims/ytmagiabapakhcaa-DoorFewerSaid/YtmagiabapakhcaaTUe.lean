/- DoorFewer: for every list of numbers the law answers true, with no condition. No conditions. -/
import Derived.Test.YtmagiabapakhcaaB52
import Derived.Test.YtmagiabapakhcaaB54
set_option linter.unusedVariables false
set_option linter.unusedSimpArgs false
/- DoorFewer: for every list of numbers the law answers true, and the numbers read afterwards as before. (Vm) -/
namespace Go.Proofs.Ytmagiabapakhcaa.Vm
open Go Go.Proofs Go.ChangeShapes Go.WideShapes Go.ChangeAt Go.RowKit
set_option maxRecDepth 100000 in
theorem fewer_lifted (os : Os) (started : os.Started) (H : Type) (enc : TypeId × Value → H) :
    ReturnsInHanded {} Try.checked os 10 .any (Rows.doorFewerSpec.pre6 enc Try.prog Try.f10 Rows.doorFewerRow.domain false) (Rows.doorFewerSpec.post enc Try.prog Try.f10 false true false false) := by
  refine returnsInHanded_of_change (C := Try.checked) law_own started (by kernel_rfl) Try.func10
    (ChangeSpec.witness6 (enc := enc) (C := Try.checked) false ⟨#[], #[.slice none 0 0], []⟩ 8 (by kernel_rfl) (by kernel_rfl) (by kernel_rfl) (by kernel_rfl)) ?_
  intro W base args ds gs before hval hW hcnd _
  exact ints_contract rfl (fun d => ⟨rfl, rfl, rfl⟩) rfl rfl (fun xs hl => fewer_law_v xs ⟨[], []⟩ hl) hval hW
theorem fewer_holds : Rows.DoorFewerSaid :=
  OpenClaim.holds_of_wide 10 Try.f10 rfl rfl rfl rfl rfl rfl rfl ⟨rfl, rfl, rfl, rfl, rfl⟩ rfl rfl rfl rfl rfl (by kernel_rfl) Try.func10 (by kernel_rfl)
    (of_decide_eq_true (by kernel_rfl)) (by unfold Func.isWrapper; first | (rw [if_pos (by decide +kernel)]; kernel_rfl) | (rw [if_neg (by decide +kernel)]; exact ⟨rfl, rfl⟩))
    (fun os started H enc _ => fewer_lifted os started H enc)
end Go.Proofs.Ytmagiabapakhcaa.Vm
namespace Go.Proofs.Ytmagiabapakhcaa
theorem doorFewer_proved : Rows.DoorFewerSaid := Vm.fewer_holds
end Go.Proofs.Ytmagiabapakhcaa
