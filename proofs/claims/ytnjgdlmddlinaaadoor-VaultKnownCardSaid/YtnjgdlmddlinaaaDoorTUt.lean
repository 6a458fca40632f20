/- VaultKnown: the law answers true. No conditions. -/
import Derived.Test.YtnjgdlmddlinaaaDoorB16
import Derived.Test.YtnjgdlmddlinaaaDoorB30
import Derived.Test.YtnjgdlmddlinaaaDoorTie
import Derived.Test.YtnjgdlmddlinaaaDoorCards
set_option linter.unusedVariables false
set_option linter.unusedSimpArgs false
/- VaultKnown: the law answers true. (Vm) -/
namespace Go.Proofs.YtnjgdlmddlinaaaDoor.Vm
open Go Go.Proofs Go.ChangeShapes Go.WideShapes Go.ChangeAt Go.RowKit
set_option maxRecDepth 100000 in
theorem tape_lifted (os : Os) (started : os.Started) (H : Type) (enc : TypeId × Value → H) :
  ReturnsInHanded {} Tryd.checked os 3 .any (fun w args => (Rows.vaultKnownSpec.pre enc Tryd.prog Tryd.f3 Rows.vaultKnownRow.domain false w args ∧ laidMetH Tryd.prog Rows.vaultKnownRow.laid w) ∧ sizedMet enc Tryd.prog Tryd.f3 (OpenSpec.ofChange Rows.vaultKnownSpec) false w args)
   (Rows.vaultKnownSpec.post enc Tryd.prog Tryd.f3 false true false false) := by
 refine handed_laid (C := Tryd.checked) law_own started (by kernel_rfl) Tryd.func3
  (ChangeSpec.witness_shaped (enc := enc) (C := Tryd.checked) (X := fun w _ => laidMetH Tryd.prog Rows.vaultKnownRow.laid w) false (laidWorld os) #[] 8 rfl (laid_shaped os _) (by kernel_rfl) (by kernel_rfl) (by kernel_rfl) (laid_met os _)) ?_
 intro W base args ds gs before hval hW hL hsh
 refine law_contract .nil rfl (fun ds h => by
  match ds, h with
  | [], _ => exact ⟨rfl, rfl, rfl⟩) rfl (fun us h0 => ?_) (lz_law hL) hval hW
 obtain rfl := h0.inv0
 exact known_v ⟨[], []⟩
theorem tape_holds : Rows.VaultKnownSaid :=
 OpenClaim.holds_of_wide 3 Tryd.f3 rfl rfl rfl rfl rfl rfl rfl ⟨rfl, rfl, rfl, rfl, rfl⟩ rfl rfl rfl rfl rfl (by kernel_rfl) Tryd.func3 (by kernel_rfl)
  (of_decide_eq_true (by kernel_rfl)) (by unfold Func.isWrapper; first | (rw [if_pos (by decide +kernel)]; kernel_rfl) | (rw [if_neg (by decide +kernel)]; exact ⟨rfl, rfl⟩))
  (fun os started H enc _ => tape_lifted os started H enc)
theorem tape_card : Rows.VaultKnownCardSaid :=
 Claim7.holds_tied_plain_at .later [] [.data, .data, .data] true (true, "7b34060bd2635737f9ed818bcfbcf0c3f14760cfce8c36f9017ce7c862f3625a") false
  tape_holds (fun _ h => by cases h) (by kernel_rfl) (fun _ h => by cases h) vaultKnown_row_tie rfl ⟨rfl, rfl⟩ (by kernel_rfl) rfl
  (fun f fn hf hfn => by
    obtain rfl : 3 = f := Option.some.inj ((show Tryd.prog.funcNamed "shambles/shambleslaw03.VaultKnown" = some 3 by kernel_rfl).symm.trans hf)
    obtain rfl : Tryd.f3 = fn := Option.some.inj (Tryd.func3.symm.trans hfn)
    exact ⟨by kernel_rfl, fun j t ht => by
     exact absurd ht (by simp [show Tryd.f3.params = #[] from rfl])⟩)
  (by kernel_rfl)
end Go.Proofs.YtnjgdlmddlinaaaDoor.Vm
namespace Go.Proofs.YtnjgdlmddlinaaaDoor
theorem vaultKnown_proved : Rows.VaultKnownCardSaid := Vm.tape_card
end Go.Proofs.YtnjgdlmddlinaaaDoor
