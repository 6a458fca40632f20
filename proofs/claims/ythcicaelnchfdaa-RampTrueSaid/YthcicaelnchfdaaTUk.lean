/- RampTrue: for every list of numbers the law answers true, and the numbers read afterwards as before. No conditions. -/
import Derived.Test.YthcicaelnchfdaaB33
import Derived.Test.YthcicaelnchfdaaB53
set_option linter.unusedVariables false
set_option linter.unusedSimpArgs false
/- RampTrue: for every list of numbers the law answers true, and the numbers read afterwards as before. (Vm) -/
namespace Go.Proofs.Ythcicaelnchfdaa.Vm
open Go Go.Proofs Go.ChangeShapes Go.WideShapes Go.ChangeAt Go.RowKit
set_option maxRecDepth 100000 in
theorem true_lifted (os : Os) (started : os.Started) (H : Type) (enc : TypeId × Value → H) :
  ReturnsInHanded {} Try.checked os 13 .any (Rows.rampTrueSpec.pre6 enc Try.prog Try.f13 Rows.rampTrueRow.domain false) (Rows.rampTrueSpec.post enc Try.prog Try.f13 false true false false) := by
 refine returnsInHanded_of_change (C := Try.checked) law_own started (by kernel_rfl) Try.func13
  (ChangeSpec.witness6 (enc := enc) (C := Try.checked) false ⟨#[], #[.slice none 0 0], []⟩ 8 (by kernel_rfl) (by kernel_rfl) (by kernel_rfl) (by kernel_rfl)) ?_
 intro W base args ds gs before hval hW hcnd _
 refine law_contract (.cons rd_ints .nil) rfl (fun ds h => by
  match ds, h with
  | [a], _ => exact ⟨rfl, rfl, rfl⟩) rfl (fun us h0 => ?_) hval hW
 obtain ⟨_, _, rfl, ⟨x0, rfl, p0⟩, h1⟩ := h0.inv
 obtain rfl := h1.inv0
 exact true_law_v x0 ⟨[], []⟩ p0
theorem true_holds : Rows.RampTrueSaid :=
 OpenClaim.holds_of_wide 13 Try.f13 rfl rfl rfl rfl rfl rfl rfl ⟨rfl, rfl, rfl, rfl, rfl⟩ rfl rfl rfl rfl rfl (by kernel_rfl) Try.func13 (by kernel_rfl)
  (of_decide_eq_true (by kernel_rfl)) (by unfold Func.isWrapper; first | (rw [if_pos (by decide +kernel)]; kernel_rfl) | (rw [if_neg (by decide +kernel)]; exact ⟨rfl, rfl⟩))
  (fun os started H enc _ => true_lifted os started H enc)
end Go.Proofs.Ythcicaelnchfdaa.Vm
namespace Go.Proofs.Ythcicaelnchfdaa
theorem rampTrue_proved : Rows.RampTrueSaid := Vm.true_holds
end Go.Proofs.Ythcicaelnchfdaa
