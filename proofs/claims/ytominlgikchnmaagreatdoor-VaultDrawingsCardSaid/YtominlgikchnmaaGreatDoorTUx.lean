/- VaultDrawings: for every hall, text, list of numbers, two numbers and a byte the law answers true, and what came in reads afterwards as before. No conditions. -/
import Derived.Test.YtominlgikchnmaaGreatDoorB27
import Derived.Test.YtominlgikchnmaaGreatDoorB29
import Derived.Test.YtominlgikchnmaaGreatDoorB39
import Derived.Test.YtominlgikchnmaaGreatDoorTie
import Derived.Test.YtominlgikchnmaaGreatDoorCards
set_option linter.unusedVariables false
set_option linter.unusedSimpArgs false
/- VaultDrawings: for every hall, text, list of numbers, two numbers and a byte the law answers true, and what came in reads afterwards as before. (Vm) -/
namespace Go.Proofs.YtominlgikchnmaaGreatDoor.Vm
open Go Go.Proofs Go.ChangeShapes Go.WideShapes Go.ChangeAt Go.RowKit
set_option maxRecDepth 100000 in
theorem drawings_lifted (os : Os) (started : os.Started) (H : Type) (enc : TypeId × Value → H) :
  ReturnsInHanded {} Tryz.checked os 3 .any (fun w args => (Rows.vaultDrawingsSpec.pre enc Tryz.prog Tryz.f3 Rows.vaultDrawingsRow.domain false w args ∧ laidMetH Tryz.prog Rows.vaultDrawingsRow.laid w) ∧ sizedMet enc Tryz.prog Tryz.f3 (OpenSpec.ofChange Rows.vaultDrawingsSpec) false w args)
   (Rows.vaultDrawingsSpec.post enc Tryz.prog Tryz.f3 false true false false) := by
 refine handed_laid (C := Tryz.checked) law_own started (by kernel_rfl) Tryz.func3
  (ChangeSpec.witness_shaped (enc := enc) (C := Tryz.checked) (X := fun w _ => laidMetH Tryz.prog Rows.vaultDrawingsRow.laid w) false (laidWorld os) #[.agg #[.int .i64 0, .int .i64 0, .slice none 0 0, .slice none 0 0, .int .i64 0, .int .i64 0, .slice none 0 0, .slice none 0 0], .string ⟨#[]⟩, .slice none 0 0, .int .i64 0, .int .i64 0, .int .u8 0] 8 rfl (laid_shaped os _) (by kernel_rfl) (by kernel_rfl) (by kernel_rfl) (laid_met os _)) ?_
 intro W base args ds gs before hval hW hL hsh
 refine law_contract (.cons rd_hall (.cons rd_str (.cons rd_ints (.cons rd_int (.cons rd_int (.cons rd_u8 .nil)))))) rfl (fun ds h => by
  match ds, h with
  | [a, b, c, d, e, f], _ => exact ⟨rfl, rfl, rfl⟩) rfl (fun us h0 => ?_) (lz_law hL hsh) hval hW
 obtain ⟨_, _, rfl, ⟨x0, rfl, p0, _⟩, h1⟩ := h0.inv
 obtain ⟨_, _, rfl, ⟨x1, rfl, p1⟩, h2⟩ := h1.inv
 obtain ⟨_, _, rfl, ⟨x2, rfl, p2⟩, h3⟩ := h2.inv
 obtain ⟨_, _, rfl, ⟨x3, rfl, _⟩, h4⟩ := h3.inv
 obtain ⟨_, _, rfl, ⟨x4, rfl, _⟩, h5⟩ := h4.inv
 obtain ⟨_, _, rfl, ⟨x5, rfl⟩, h6⟩ := h5.inv
 obtain rfl := h6.inv0
 exact drawings_law_v awake_v x0 x1 x2 x3 x4 x5 ⟨[], []⟩ p0 p2 (Nat.le_trans p1 (by decide))
theorem drawings_holds : Rows.VaultDrawingsSaid :=
 OpenClaim.holds_of_wide 3 Tryz.f3 rfl rfl rfl rfl rfl rfl rfl ⟨rfl, rfl, rfl, rfl, rfl⟩ rfl rfl rfl rfl rfl (by kernel_rfl) Tryz.func3 (by kernel_rfl)
  (of_decide_eq_true (by kernel_rfl)) (by unfold Func.isWrapper; first | (rw [if_pos (by decide +kernel)]; kernel_rfl) | (rw [if_neg (by decide +kernel)]; exact ⟨rfl, rfl⟩))
  (fun os started H enc _ => drawings_lifted os started H enc)
theorem drawings_card : Rows.VaultDrawingsCardSaid :=
 Claim7.holds_tied_plain_at .later [] [.data, .data, .data, .data, .sentinel, .sentinel, .pinned] true (true, "778696ced5fac548ec6303ff933c603d7d3275b55430765fee80fbcebfa6bc93") true
  drawings_holds (fun _ h => by cases h) (by kernel_rfl) (fun _ h => by cases h) vaultDrawings_row_tie rfl ⟨rfl, rfl⟩ (by kernel_rfl) rfl
  (fun f fn hf hfn => by
    obtain rfl : 3 = f := Option.some.inj ((show Tryz.prog.funcNamed "shambles/shambleslaw03.VaultDrawings" = some 3 by kernel_rfl).symm.trans hf)
    obtain rfl : Tryz.f3 = fn := Option.some.inj (Tryz.func3.symm.trans hfn)
    exact ⟨by kernel_rfl, fun j t ht => by
     have ht' : (#[28, 9, 25, 3, 3, 5] : Array TypeId)[j]? = some t := ht
     match j, ht' with
     | 0, h => cases h; exact (show Tryz.prog.wantsStandIn 28 = false by kernel_rfl)
     | 1, h => cases h; exact (show Tryz.prog.wantsStandIn 9 = false by kernel_rfl)
     | 2, h => cases h; exact (show Tryz.prog.wantsStandIn 25 = false by kernel_rfl)
     | 3, h => cases h; exact (show Tryz.prog.wantsStandIn 3 = false by kernel_rfl)
     | 4, h => cases h; exact (show Tryz.prog.wantsStandIn 3 = false by kernel_rfl)
     | 5, h => cases h; exact (show Tryz.prog.wantsStandIn 5 = false by kernel_rfl)⟩)
  (by kernel_rfl)
end Go.Proofs.YtominlgikchnmaaGreatDoor.Vm
namespace Go.Proofs.YtominlgikchnmaaGreatDoor
theorem vaultDrawings_proved : Rows.VaultDrawingsCardSaid := Vm.drawings_card
end Go.Proofs.YtominlgikchnmaaGreatDoor
