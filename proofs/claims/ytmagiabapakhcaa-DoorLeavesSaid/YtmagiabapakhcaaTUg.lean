/- For every house, people, closed doors and list of numbers DoorLeaves answers true, and its arguments read afterwards as before. No conditions. -/
import Derived.Test.YtmagiabapakhcaaB33
import Derived.Test.YtmagiabapakhcaaB41
set_option linter.unusedVariables false
set_option linter.unusedSimpArgs false
/- DoorLeaves: for every house, people, closed doors and list of numbers the law answers true, and the arguments read afterwards as before. (Vm) -/
namespace Go.Proofs.Ytmagiabapakhcaa.Vm
open Go Go.Proofs Go.ChangeShapes Go.WideShapes Go.ChangeAt Go.RowKit
set_option maxRecDepth 100000 in
theorem leaves_lifted (os : Os) (started : os.Started) (H : Type) (enc : TypeId × Value → H) :
  ReturnsInHanded {} Try.checked os 4 .any (Rows.doorLeavesSpec.pre6 enc Try.prog Try.f4 Rows.doorLeavesRow.domain false) (Rows.doorLeavesSpec.post enc Try.prog Try.f4 false true false false) := by
 refine returnsInHanded_of_change (C := Try.checked) law_own started (by kernel_rfl) Try.func4
  (ChangeSpec.witness6 (enc := enc) (C := Try.checked) false ⟨#[], #[.agg #[.slice none 0 0, .slice none 0 0, .int .i64 0, .int .i64 0, .int .i64 0, .slice none 0 0], .slice none 0 0, .slice none 0 0, .slice none 0 0], []⟩ 8 (by kernel_rfl) (by kernel_rfl) (by kernel_rfl) (by kernel_rfl)) ?_
 intro W base args ds gs before hval hW hcnd _
 refine law_contract (.cons rd_house (.cons rd_ints (.cons rd_ints (.cons rd_ints .nil)))) rfl (fun ds h => by
  match ds, h with
  | [a, b, c, d], _ => exact ⟨rfl, rfl, rfl⟩) rfl (fun us h0 => ?_) hval hW
 obtain ⟨_, _, rfl, ⟨x0, rfl, p0, q0, r0⟩, h1⟩ := h0.inv
 obtain ⟨_, _, rfl, ⟨x1, rfl, p1⟩, h2⟩ := h1.inv
 obtain ⟨_, _, rfl, ⟨x2, rfl, p2⟩, h3⟩ := h2.inv
 obtain ⟨_, _, rfl, ⟨x3, rfl, p3⟩, h4⟩ := h3.inv
 obtain rfl := h4.inv0
 exact leaves_law_v x0 x1 x2 x3 ⟨[], []⟩ p3
theorem leaves_holds : Rows.DoorLeavesSaid :=
 OpenClaim.holds_of_wide 4 Try.f4 rfl rfl rfl rfl rfl rfl rfl ⟨rfl, rfl, rfl, rfl, rfl⟩ rfl rfl rfl rfl rfl (by kernel_rfl) Try.func4 (by kernel_rfl)
  (of_decide_eq_true (by kernel_rfl)) (by unfold Func.isWrapper; first | (rw [if_pos (by decide +kernel)]; kernel_rfl) | (rw [if_neg (by decide +kernel)]; exact ⟨rfl, rfl⟩))
  (fun os started H enc _ => leaves_lifted os started H enc)
end Go.Proofs.Ytmagiabapakhcaa.Vm
namespace Go.Proofs.Ytmagiabapakhcaa
theorem doorLeaves_proved : Rows.DoorLeavesSaid := Vm.leaves_holds
end Go.Proofs.Ytmagiabapakhcaa
