/- RampEasier: for every list of numbers the law answers true, and the numbers read afterwards as before. No conditions. -/
import Derived.Test.YthcicaelnchfdaaB33
import Derived.Test.YthcicaelnchfdaaB50
set_option linter.unusedVariables false
set_option linter.unusedSimpArgs false
/- RampEasier: for every list of numbers the law answers true, and the numbers read afterwards as before. (Vm) -/
namespace Go.Proofs.Ythcicaelnchfdaa.Vm
open Go Go.Proofs Go.ChangeShapes Go.WideShapes Go.ChangeAt Go.RowKit
set_option maxRecDepth 100000 in
theorem easier_lifted (os : Os) (started : os.Started) (H : Type) (enc : TypeId × Value → H) :
  ReturnsInHanded {} Try.checked os 7 .any (Rows.rampEasierSpec.pre6 enc Try.prog Try.f7 Rows.rampEasierRow.domain false) (Rows.rampEasierSpec.post enc Try.prog Try.f7 false true false false) := by
 refine returnsInHanded_of_change (C := Try.checked) law_own started (by kernel_rfl) Try.func7
  (ChangeSpec.witness6 (enc := enc) (C := Try.checked) false ⟨#[], #[.slice none 0 0], []⟩ 8 (by kernel_rfl) (by kernel_rfl) (by kernel_rfl) (by kernel_rfl)) ?_
 intro W base args ds gs before hval hW hcnd _
 refine law_contract (.cons rd_ints .nil) rfl (fun ds h => by
  match ds, h with
  | [a], _ => exact ⟨rfl, rfl, rfl⟩) rfl (fun us h0 => ?_) hval hW
 obtain ⟨_, _, rfl, ⟨x0, rfl, p0⟩, h1⟩ := h0.inv
 obtain rfl := h1.inv0
 exact easier_law_v x0 ⟨[], []⟩ p0
theorem easier_holds : Rows.RampEasierSaid :=
 OpenClaim.holds_of_wide 7 Try.f7 rfl rfl rfl rfl rfl rfl rfl ⟨rfl, rfl, rfl, rfl, rfl⟩ rfl rfl rfl rfl rfl (by kernel_rfl) Try.func7 (by kernel_rfl)
  (of_decide_eq_true (by kernel_rfl)) (by unfold Func.isWrapper; first | (rw [if_pos (by decide +kernel)]; kernel_rfl) | (rw [if_neg (by decide +kernel)]; exact ⟨rfl, rfl⟩))
  (fun os started H enc _ => easier_lifted os started H enc)
end Go.Proofs.Ythcicaelnchfdaa.Vm
namespace Go.Proofs.Ythcicaelnchfdaa
theorem rampEasier_proved : Rows.RampEasierSaid := Vm.easier_holds
end Go.Proofs.Ythcicaelnchfdaa
