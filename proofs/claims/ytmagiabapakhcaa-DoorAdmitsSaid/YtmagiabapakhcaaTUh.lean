/- For every house, numbers, closed doors and list of numbers DoorAdmits answers true, and its arguments read afterwards as before. No conditions. -/
import Derived.Test.YtmagiabapakhcaaB33
import Derived.Test.YtmagiabapakhcaaB43
set_option linter.unusedVariables false
set_option linter.unusedSimpArgs false
/- DoorAdmits: for every house, numbers, closed doors and list of numbers the law answers true, and the arguments read afterwards as before. (Vm) -/
namespace Go.Proofs.Ytmagiabapakhcaa.Vm
open Go Go.Proofs Go.ChangeShapes Go.WideShapes Go.ChangeAt Go.RowKit
set_option maxRecDepth 100000 in
theorem admits_lifted (os : Os) (started : os.Started) (H : Type) (enc : TypeId × Value → H) :
  ReturnsInHanded {} Try.checked os 15 .any (Rows.doorAdmitsSpec.pre6 enc Try.prog Try.f15 Rows.doorAdmitsRow.domain false) (Rows.doorAdmitsSpec.post enc Try.prog Try.f15 false true false false) := by
 refine returnsInHanded_of_change (C := Try.checked) law_own started (by kernel_rfl) Try.func15
  (ChangeSpec.witness6 (enc := enc) (C := Try.checked) false ⟨#[], #[.agg #[.slice none 0 0, .slice none 0 0, .int .i64 0, .int .i64 0, .int .i64 0, .slice none 0 0], .int .i64 0, .int .i64 0, .slice none 0 0, .slice none 0 0], []⟩ 8 (by kernel_rfl) (by kernel_rfl) (by kernel_rfl) (by kernel_rfl)) ?_
 intro W base args ds gs before hval hW hcnd _
 refine law_contract (.cons rd_house (.cons rd_int (.cons rd_int (.cons rd_ints (.cons rd_ints .nil))))) rfl (fun ds h => by
  match ds, h with
  | [a, b, c, d, e], _ => exact ⟨rfl, rfl, rfl⟩) rfl (fun us h0 => ?_) hval hW
 obtain ⟨_, _, rfl, ⟨x0, rfl, p0, q0, r0⟩, h1⟩ := h0.inv
 obtain ⟨_, _, rfl, ⟨x1, rfl, p1, q1⟩, h2⟩ := h1.inv
 obtain ⟨_, _, rfl, ⟨x2, rfl, p2, q2⟩, h3⟩ := h2.inv
 obtain ⟨_, _, rfl, ⟨x3, rfl, p3⟩, h4⟩ := h3.inv
 obtain ⟨_, _, rfl, ⟨x4, rfl, p4⟩, h5⟩ := h4.inv
 obtain rfl := h5.inv0
 exact admits_law_v x0 x1 x2 x3 x4 ⟨[], []⟩ p4
theorem admits_holds : Rows.DoorAdmitsSaid :=
 OpenClaim.holds_of_wide 15 Try.f15 rfl rfl rfl rfl rfl rfl rfl ⟨rfl, rfl, rfl, rfl, rfl⟩ rfl rfl rfl rfl rfl (by kernel_rfl) Try.func15 (by kernel_rfl)
  (of_decide_eq_true (by kernel_rfl)) (by unfold Func.isWrapper; first | (rw [if_pos (by decide +kernel)]; kernel_rfl) | (rw [if_neg (by decide +kernel)]; exact ⟨rfl, rfl⟩))
  (fun os started H enc _ => admits_lifted os started H enc)
end Go.Proofs.Ytmagiabapakhcaa.Vm
namespace Go.Proofs.Ytmagiabapakhcaa
theorem doorAdmits_proved : Rows.DoorAdmitsSaid := Vm.admits_holds
end Go.Proofs.Ytmagiabapakhcaa
