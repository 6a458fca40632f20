/- RampPlans: for every yard, plan, number, slot and list of numbers the law answers true, and what came in reads afterwards as before. No conditions. -/
import Derived.Test.YthcicaelnchfdaaB33
import Derived.Test.YthcicaelnchfdaaB47
set_option linter.unusedVariables false
set_option linter.unusedSimpArgs false
/- RampPlans: for every yard, plan, number, slot and list of numbers the law answers true, and what came in reads afterwards as before. (Vm) -/
namespace Go.Proofs.Ythcicaelnchfdaa.Vm
open Go Go.Proofs Go.ChangeShapes Go.WideShapes Go.ChangeAt Go.RowKit
set_option maxRecDepth 100000 in
theorem plans_lifted (os : Os) (started : os.Started) (H : Type) (enc : TypeId × Value → H) :
  ReturnsInHanded {} Try.checked os 12 .any (Rows.rampPlansSpec.pre6 enc Try.prog Try.f12 Rows.rampPlansRow.domain false) (Rows.rampPlansSpec.post enc Try.prog Try.f12 false true false false) := by
 refine returnsInHanded_of_change (C := Try.checked) law_own started (by kernel_rfl) Try.func12
  (ChangeSpec.witness6 (enc := enc) (C := Try.checked) false ⟨#[], #[.agg #[.slice none 0 0, .slice none 0 0, .int .i64 0], .slice none 0 0, .int .i64 0, .agg #[.int .i64 0, .int .i64 0], .slice none 0 0], []⟩ 8 (by kernel_rfl) (by kernel_rfl) (by kernel_rfl) (by kernel_rfl)) ?_
 intro W base args ds gs before hval hW hcnd _
 refine law_contract (.cons rd_yard (.cons rd_slots (.cons rd_int (.cons rd_slot (.cons rd_ints .nil))))) rfl (fun ds h => by
  match ds, h with
  | [a, b, c, d, e], _ => exact ⟨rfl, rfl, rfl⟩) rfl (fun us h0 => ?_) hval hW
 obtain ⟨_, _, rfl, ⟨x0, rfl, p0, q0⟩, h1⟩ := h0.inv
 obtain ⟨_, _, rfl, ⟨x1, rfl, p1⟩, h2⟩ := h1.inv
 obtain ⟨_, _, rfl, ⟨x2, rfl, p2, q2⟩, h3⟩ := h2.inv
 obtain ⟨_, _, rfl, ⟨x3, rfl⟩, h4⟩ := h3.inv
 obtain ⟨_, _, rfl, ⟨x4, rfl, p4⟩, h5⟩ := h4.inv
 obtain rfl := h5.inv0
 exact plans_law_v x0 x1 x2 x3 x4 ⟨[], []⟩ q0 p4
theorem plans_holds : Rows.RampPlansSaid :=
 OpenClaim.holds_of_wide 12 Try.f12 rfl rfl rfl rfl rfl rfl rfl ⟨rfl, rfl, rfl, rfl, rfl⟩ rfl rfl rfl rfl rfl (by kernel_rfl) Try.func12 (by kernel_rfl)
  (of_decide_eq_true (by kernel_rfl)) (by unfold Func.isWrapper; first | (rw [if_pos (by decide +kernel)]; kernel_rfl) | (rw [if_neg (by decide +kernel)]; exact ⟨rfl, rfl⟩))
  (fun os started H enc _ => plans_lifted os started H enc)
end Go.Proofs.Ythcicaelnchfdaa.Vm
namespace Go.Proofs.Ythcicaelnchfdaa
theorem rampPlans_proved : Rows.RampPlansSaid := Vm.plans_holds
end Go.Proofs.Ythcicaelnchfdaa
