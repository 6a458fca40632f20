/- DoorTape: for every list of numbers and every text the law answers true, and what came in reads afterwards as before. No conditions. -/
import Derived.Test.YtekhddlngbppkaaGreatDoorB16
import Derived.Test.YtekhddlngbppkaaGreatDoorB30
import Derived.Test.YtekhddlngbppkaaGreatDoorB37
import Derived.Test.YtekhddlngbppkaaGreatDoorTie
import Derived.Test.YtekhddlngbppkaaGreatDoorCards
set_option linter.unusedVariables false
set_option linter.unusedSimpArgs false
/- DoorTape: for every list of numbers and text the law answers true, and what came in reads afterwards as before. (Vm) -/
namespace Go.Proofs.YtekhddlngbppkaaGreatDoor.Vm
open Go Go.Proofs Go.ChangeShapes Go.WideShapes Go.ChangeAt Go.RowKit
set_option maxRecDepth 100000 in
theorem tape_lifted (os : Os) (started : os.Started) (H : Type) (enc : TypeId × Value → H) :
  ReturnsInHanded {} Tryz.checked os 4 .any (fun w args => (Rows.doorTapeSpec.pre enc Tryz.prog Tryz.f4 Rows.doorTapeRow.domain false w args ∧ laidMetH Tryz.prog Rows.doorTapeRow.laid w) ∧ sizedMet enc Tryz.prog Tryz.f4 (OpenSpec.ofChange Rows.doorTapeSpec) false w args)
   (Rows.doorTapeSpec.post enc Tryz.prog Tryz.f4 false true false false) := by
 refine handed_laid (C := Tryz.checked) law_own started (by kernel_rfl) Tryz.func4
  (ChangeSpec.witness_shaped (enc := enc) (C := Tryz.checked) (X := fun w _ => laidMetH Tryz.prog Rows.doorTapeRow.laid w) false (laidWorld os) #[.slice none 0 0, .string ⟨#[]⟩] 8 rfl (laid_shaped os _) (by kernel_rfl) (by kernel_rfl) (by kernel_rfl) (laid_met os _)) ?_
 intro W base args ds gs before hval hW hL hsh
 refine law_contract (.cons rd_ints (.cons rd_str .nil)) rfl (fun ds h => by
  match ds, h with
  | [a, b], _ => exact ⟨rfl, rfl, rfl⟩) rfl (fun us h0 => ?_) (lz_law hL hsh) hval hW
 obtain ⟨_, _, rfl, ⟨x0, rfl, p0⟩, h1⟩ := h0.inv
 obtain ⟨_, _, rfl, ⟨x1, rfl, p1⟩, h2⟩ := h1.inv
 obtain rfl := h2.inv0
 exact tape_law_v awake_v x0 x1 ⟨[], []⟩ p0 (Nat.le_trans p1 (by decide))
theorem tape_holds : Rows.DoorTapeSaid :=
 OpenClaim.holds_of_wide 4 Tryz.f4 rfl rfl rfl rfl rfl rfl rfl ⟨rfl, rfl, rfl, rfl, rfl⟩ rfl rfl rfl rfl rfl (by kernel_rfl) Tryz.func4 (by kernel_rfl)
  (of_decide_eq_true (by kernel_rfl)) (by unfold Func.isWrapper; first | (rw [if_pos (by decide +kernel)]; kernel_rfl) | (rw [if_neg (by decide +kernel)]; exact ⟨rfl, rfl⟩))
  (fun os started H enc _ => tape_lifted os started H enc)
theorem tape_card : Rows.DoorTapeCardSaid :=
 Claim7.holds_tied_plain_at .later [] [.data, .data, .data, .data, .sentinel, .sentinel, .pinned] true (true, "0d588ab11a7eee12ef23c0d8eaa053291cb959003652a5c04442562cf3b92fad") true
  tape_holds (fun _ h => by cases h) (by kernel_rfl) (fun _ h => by cases h) doorTape_row_tie rfl ⟨rfl, rfl⟩ (by kernel_rfl) rfl
  (fun f fn hf hfn => by
    obtain rfl : 4 = f := Option.some.inj ((show Tryz.prog.funcNamed "shambles/shambleslaw09.DoorTape" = some 4 by kernel_rfl).symm.trans hf)
    obtain rfl : Tryz.f4 = fn := Option.some.inj (Tryz.func4.symm.trans hfn)
    exact ⟨by kernel_rfl, fun j t ht => by
     have ht' : (#[22, 9] : Array TypeId)[j]? = some t := ht
     match j, ht' with
     | 0, h => cases h; exact (show Tryz.prog.wantsStandIn 22 = false by kernel_rfl)
     | 1, h => cases h; exact (show Tryz.prog.wantsStandIn 9 = false by kernel_rfl)⟩)
  (by kernel_rfl)
end Go.Proofs.YtekhddlngbppkaaGreatDoor.Vm
namespace Go.Proofs.YtekhddlngbppkaaGreatDoor
theorem doorTape_proved : Rows.DoorTapeCardSaid := Vm.tape_card
end Go.Proofs.YtekhddlngbppkaaGreatDoor
