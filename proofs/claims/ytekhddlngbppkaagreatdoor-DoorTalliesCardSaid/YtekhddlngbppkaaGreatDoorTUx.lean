/- DoorTallies: for every house, text, list of numbers, two numbers and a byte the law answers true, and what came in reads afterwards as before. No conditions. -/
import Derived.Test.YtekhddlngbppkaaGreatDoorB16
import Derived.Test.YtekhddlngbppkaaGreatDoorB30
import Derived.Test.YtekhddlngbppkaaGreatDoorB42
import Derived.Test.YtekhddlngbppkaaGreatDoorTie
import Derived.Test.YtekhddlngbppkaaGreatDoorCards
set_option linter.unusedVariables false
set_option linter.unusedSimpArgs false
/- DoorTallies: for every house, text, list of numbers, two numbers and a byte the law answers true, and what came in reads afterwards as before. (Vm) -/
namespace Go.Proofs.YtekhddlngbppkaaGreatDoor.Vm
open Go Go.Proofs Go.ChangeShapes Go.WideShapes Go.ChangeAt Go.RowKit
set_option maxRecDepth 100000 in
theorem tallies_lifted (os:Os) (started:os.Started) (H:Type) (enc:TypeId×Value→H) :
  ReturnsInHanded {} Tryz.checked os 3 .any (fun w args=>(Rows.doorTalliesSpec.pre enc Tryz.prog Tryz.f3 Rows.doorTalliesRow.domain false w args∧laidMetH Tryz.prog Rows.doorTalliesRow.laid w)∧sizedMet enc Tryz.prog Tryz.f3 (OpenSpec.ofChange Rows.doorTalliesSpec) false w args)
   (Rows.doorTalliesSpec.post enc Tryz.prog Tryz.f3 false true false false):=by
 refine handed_laid (C:=Tryz.checked) law_own started (by kernel_rfl) Tryz.func3
  (ChangeSpec.witness_shaped (enc:=enc) (C:=Tryz.checked) (X:=fun w _=>laidMetH Tryz.prog Rows.doorTalliesRow.laid w) false (laidWorld os) #[.agg #[.slice none 0 0,.slice none 0 0,.int .i64 0,.int .i64 0,.int .i64 0,.slice none 0 0],.string ⟨#[]⟩,.slice none 0 0,.int .i64 0,.int .i64 0,.int .u8 0] 8 rfl (laid_shaped os _) (by kernel_rfl) (by kernel_rfl) (by kernel_rfl) (laid_met os _)) ?_
 intro W base args ds gs before hval hW hL hsh
 refine law_contract (.cons rd_house (.cons rd_str (.cons rd_ints (.cons rd_int (.cons rd_int (.cons rd_u8 .nil)))))) rfl (fun ds h=>by
  match ds,h with
  | [a,b,c,d,e,f],_=>exact ⟨rfl,rfl,rfl⟩) rfl (fun us h0 => ?_) (lz_law hL hsh) hval hW
 obtain ⟨_,_,rfl,⟨x0,rfl,_⟩,h1⟩:=h0.inv
 obtain ⟨_,_,rfl,⟨x1,rfl,p1⟩,h2⟩:=h1.inv
 obtain ⟨_,_,rfl,⟨x2,rfl,p2⟩,h3⟩:=h2.inv
 obtain ⟨_,_,rfl,⟨x3,rfl,_⟩,h4⟩:=h3.inv
 obtain ⟨_,_,rfl,⟨x4,rfl,_⟩,h5⟩:=h4.inv
 obtain ⟨_,_,rfl,⟨x5,rfl⟩,h6⟩:=h5.inv
 obtain rfl:=h6.inv0
 exact tallies_law_v awake_v x0 x1 x2 x3 x4 x5 ⟨[],[]⟩ p2 (Nat.le_trans p1 (by decide))
theorem tallies_holds:Rows.DoorTalliesSaid :=
 OpenClaim.holds_of_wide 3 Tryz.f3 rfl rfl rfl rfl rfl rfl rfl ⟨rfl,rfl,rfl,rfl,rfl⟩ rfl rfl rfl rfl rfl (by kernel_rfl) Tryz.func3 (by kernel_rfl)
  (of_decide_eq_true (by kernel_rfl)) (by unfold Func.isWrapper; first | (rw [if_pos (by decide +kernel)]; kernel_rfl) | (rw [if_neg (by decide +kernel)]; exact ⟨rfl,rfl⟩))
  (fun os started H enc _=>tallies_lifted os started H enc)
theorem tallies_card:Rows.DoorTalliesCardSaid :=
 Claim7.holds_tied_plain_at .later [] [.data,.data,.data,.data,.sentinel,.sentinel,.pinned] true (true, "0d588ab11a7eee12ef23c0d8eaa053291cb959003652a5c04442562cf3b92fad") true
  tallies_holds (fun _ h=>by cases h) (by kernel_rfl) (fun _ h=>by cases h) doorTallies_row_tie rfl ⟨rfl,rfl⟩ (by kernel_rfl) rfl
  (fun f fn hf hfn=>by
    obtain rfl : 3 = f:=Option.some.inj ((show Tryz.prog.funcNamed "shambles/shambleslaw09.DoorTallies" = some 3 by kernel_rfl).symm.trans hf)
    obtain rfl:Tryz.f3 = fn:=Option.some.inj (Tryz.func3.symm.trans hfn)
    exact ⟨by kernel_rfl,fun j t ht=>by
     have ht':(#[28, 9, 22, 3, 3, 5]:Array TypeId)[j]? = some t:=ht
     match j,ht' with
     | 0,h=>cases h; exact (show Tryz.prog.wantsStandIn 28 = false by kernel_rfl)
     | 1,h=>cases h; exact (show Tryz.prog.wantsStandIn 9 = false by kernel_rfl)
     | 2,h=>cases h; exact (show Tryz.prog.wantsStandIn 22 = false by kernel_rfl)
     | 3,h=>cases h; exact (show Tryz.prog.wantsStandIn 3 = false by kernel_rfl)
     | 4,h=>cases h; exact (show Tryz.prog.wantsStandIn 3 = false by kernel_rfl)
     | 5,h=>cases h; exact (show Tryz.prog.wantsStandIn 5 = false by kernel_rfl)⟩)
  (by kernel_rfl)
end Go.Proofs.YtekhddlngbppkaaGreatDoor.Vm
namespace Go.Proofs.YtekhddlngbppkaaGreatDoor
theorem doorTallies_proved:Rows.DoorTalliesCardSaid:=Vm.tallies_card
end Go.Proofs.YtekhddlngbppkaaGreatDoor
