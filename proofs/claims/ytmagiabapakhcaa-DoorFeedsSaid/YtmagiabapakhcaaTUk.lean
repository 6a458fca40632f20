/- DoorFeeds No conditions. -/
import Derived.Test.YtmagiabapakhcaaB33
import Derived.Test.YtmagiabapakhcaaB53
set_option linter.unusedVariables false
set_option linter.unusedSimpArgs false
/- DoorFeeds: for every kitchen and list of numbers the law answers true, and what it was given reads afterwards as before. (Vm) -/
namespace Go.Proofs.Ytmagiabapakhcaa.Vm
open Go Go.Proofs Go.ChangeShapes Go.WideShapes Go.ChangeAt Go.RowKit
set_option maxRecDepth 100000 in
theorem feeds_lifted (os : Os) (started : os.Started) (H : Type) (enc : TypeId × Value → H) :
  ReturnsInHanded {} Try.checked os 5 .any (Rows.doorFeedsSpec.pre6 enc Try.prog Try.f5 Rows.doorFeedsRow.domain false) (Rows.doorFeedsSpec.post enc Try.prog Try.f5 false true false false) := by
 refine returnsInHanded_of_change (C := Try.checked) law_own started (by kernel_rfl) Try.func5
  (ChangeSpec.witness6 (enc := enc) (C := Try.checked) false ⟨#[], #[.agg #[.slice none 0 0, .slice none 0 0], .slice none 0 0], []⟩ 8 (by kernel_rfl) (by kernel_rfl) (by kernel_rfl) (by kernel_rfl)) ?_
 intro W base args ds gs before hval hW hcnd _
 refine law_contract (.cons rd_kitchen (.cons rd_ints .nil)) rfl (fun ds h => by
  match ds, h with
  | [a, b], _ => exact ⟨rfl, rfl, rfl⟩) rfl (fun us h0 => ?_) hval hW
 obtain ⟨_, _, rfl, ⟨x0, rfl, p0, q0⟩, h1⟩ := h0.inv
 obtain ⟨_, _, rfl, ⟨x1, rfl, p1⟩, h2⟩ := h1.inv
 obtain rfl := h2.inv0
 exact feeds_law_v x0 x1 ⟨[], []⟩ p1
theorem feeds_holds : Rows.DoorFeedsSaid :=
 OpenClaim.holds_of_wide 5 Try.f5 rfl rfl rfl rfl rfl rfl rfl ⟨rfl, rfl, rfl, rfl, rfl⟩ rfl rfl rfl rfl rfl (by kernel_rfl) Try.func5 (by kernel_rfl)
  (of_decide_eq_true (by kernel_rfl)) (by unfold Func.isWrapper; first | (rw [if_pos (by decide +kernel)]; kernel_rfl) | (rw [if_neg (by decide +kernel)]; exact ⟨rfl, rfl⟩))
  (fun os started H enc _ => feeds_lifted os started H enc)
end Go.Proofs.Ytmagiabapakhcaa.Vm
namespace Go.Proofs.Ytmagiabapakhcaa
theorem doorFeeds_proved : Rows.DoorFeedsSaid := Vm.feeds_holds
end Go.Proofs.Ytmagiabapakhcaa
