/- A part of the proofs about the chapter of the vaults; it states no condition of its own. -/
import Derived.Test.YtominlgikchnmaaGreatDoorB23
import Derived.Test.YtominlgikchnmaaGreatDoorB24
set_option linter.unusedVariables false
set_option linter.unusedSimpArgs false
open Int renaming reduceLE → zA, reduceLT → zB, reduceToNat → zC, reduceNeg → zD
open Nat renaming reduceLT → zE, reduceEqDiff → zF, reduceAdd → zG, reduceSub → zH, reduceMul → zI, reduceLeDiff → zJ
/- Halls made of numbers, on values. (Vm) -/
namespace Go.Proofs.YtominlgikchnmaaGreatDoor.Vm
open Go Go.Proofs
attribute [local irreducible] castF castU fromF fromU oneF oneU
end Go.Proofs.YtominlgikchnmaaGreatDoor.Vm

/- The law of ends, on values. (Vm) -/
namespace Go.Proofs.YtominlgikchnmaaGreatDoor.Vm
open Go Go.Proofs
theorem v_eqBool (a b : Bool) : vbin T .eql 4 (vb a) (vb b) = some (vb (a == b)) := by
 simp only [vbin, t_bool]
end Go.Proofs.YtominlgikchnmaaGreatDoor.Vm

/- Halls that are copied, on values. (Vm) -/
namespace Go.Proofs.YtominlgikchnmaaGreatDoor.Vm
open Go Go.Proofs
structure CpSt where
 i : Nat
 junk : List VObj
set_option maxRecDepth 100000 in
set_option maxHeartbeats 1000000 in
theorem sameHalls_v (h : Ha) (M : Mem) (F : Fin h) : VC Tryz.prog 14 [hallV h, hallV h] M (fun r M' => M' = M ∧ r = vb true) := by
 have fw := F.water
 have fs := F.shut
 have fb := F.bears
 have fk := F.kinds
 refine VC_own' T_ok (f := 14) (fn := Tryz.f14) (by kernel_rfl) rfl Tryz.ntmps14 (by rfl) (by rfl) ?_
 ((repeat refine Ws ?_);refine Wr ?_)
 simp (maxSteps := 1000000) only [VL,VM,↓VG,reduceIte,reduceCtorEq,zA,zB,zC,zD,zE,zF,zG,zH,zI,zJ]
 ((repeat refine Ws ?_);refine Wr ?_)
 simp (maxSteps := 1000000) only [VL,VM,↓VG,reduceIte,reduceCtorEq,zA,zB,zC,zD,zE,zF,zG,zH,zI,zJ, eq_self, decide_true]
 apply call_eq (f := 45) (fn := Tryz.f45) (by kernel_rfl) (by rfl)
 ·exact sameCells_v h.water h.water _ fw fw
 simp (maxSteps := 1000000) only [VL,VM,↓VG,reduceIte,reduceCtorEq,zA,zB,zC,zD,zE,zF,zG,zH,zI,zJ, eq_self, decide_true]
 apply call_eq (f := 45) (fn := Tryz.f45) (by kernel_rfl) (by rfl)
 ·exact sameCells_v h.shut h.shut _ fs fs
 simp (maxSteps := 1000000) only [VL,VM,↓VG,reduceIte,reduceCtorEq,zA,zB,zC,zD,zE,zF,zG,zH,zI,zJ, eq_self, decide_true, v_eqCell]
 apply call_eq (f := 46) (fn := Tryz.f46) (by kernel_rfl) (by rfl)
 ·exact sameInts_v h.bears h.bears _ fb fb
 simp (maxSteps := 1000000) only [VL,VM,↓VG,reduceIte,reduceCtorEq,zA,zB,zC,zD,zE,zF,zG,zH,zI,zJ, eq_self, decide_true]
 ((repeat refine Ws ?_);refine Wr ?_)
 simp (maxSteps := 1000000) only [VL,VM,↓VG,reduceIte,reduceCtorEq,zA,zB,zC,zD,zE,zF,zG,zH,zI,zJ]
 ((repeat refine Ws ?_);refine W_block ?_; (repeat refine Ws ?_)); refine W_loopS (fun s : CpSt => [(2, .ptr M.H.length 0), (3, .ptr (M.H.length + 1) 0), (5, vb true), (6, vi s.i)]) (fun s => ⟨M.H ++ (VObj.obj (hallC h) :: VObj.obj (hallC h) :: s.junk), M.lg⟩) (fun s => h.kinds.length - s.i) (fun s => s.i ≤ h.kinds.length) ⟨0, []⟩ (Nat.zero_le _) ⟨rfl, rfl, rfl, rfl, trivial⟩ rfl ?_
 rintro ⟨i, junk⟩ hi
 simp only at hi
 have k1 : -9223372036854775808 ≤ (i : Int) + 1 ∧ (i : Int) + 1 < 9223372036854775808 := by omega
 ((repeat refine Ws ?_);refine Wr ?_)
 rcases Nat.lt_or_ge i h.kinds.length with hlt | hge
 ·have k2 : ((i : Int) < (h.kinds.length : Int)) = True := eq_true (by omega)
  have hx : h.kinds[i]? = some h.kinds[i] := List.getElem?_eq_getElem hlt
  have hx' := map_at (f := kiP) hx
  have haw := F.aways _ (List.getElem_mem hlt)
  generalize h.kinds[i] = k at hx hx' haw
  simp (maxSteps := 1000000) only [VL,VM,↓VG,reduceIte,reduceCtorEq,zA,zB,zC,zD,zE,zF,zG,zH,zI,zJ, k2]
  ((repeat refine Ws ?_);refine Wt (by first|rfl|simp only [EV,zF,reduceIte]) ?_)
  ((repeat refine Ws ?_);refine W_skip ?_)
  simp (maxSteps := 1000000) only [VL,VM,↓VG,reduceIte,reduceCtorEq,zA,zB,zC,zD,zE,zF,zG,zH,zI,zJ]
  ((repeat refine Ws ?_);refine W_block ?_)
  (repeat refine Ws ?_)
  refine W_drawP T_ok [VObj.obj [vi 0, vi 0, vb false, .sf 0 [], vi 0, vi 0], VObj.obj [vi 0, vi 0, vb false, .sf 0 [], vi 0, vi 0]] (by kernel_rfl) (by kernel_rfl) ?_
  generalize hi : mkPlan _ = infs
  cbv at hi
  subst hi
  simp (maxSteps := 1000000) only [VL,VM,↓VG,reduceIte,reduceCtorEq,zA,zB,zC,zD,zE,zF,zG,zH,zI,zJ, hx']
  have hsp : vbin T .eql 46 (.agg [vi k.lo, vi k.hi]) (.agg [vi k.lo, vi k.hi]) = some (vb true) := (v_eqSpan ⟨k.lo, k.hi⟩ ⟨k.lo, k.hi⟩).trans (by simp)
  have hbw : vbin T .eql 4 (vb k.water) (vb k.water) = some (vb true) := (v_eqBool _ _).trans (by simp)
  ((repeat refine Ws ?_);refine Wr ?_)
  simp (maxSteps := 1000000) only [VL,VM,↓VG,reduceIte,reduceCtorEq,zA,zB,zC,zD,zE,zF,zG,zH,zI,zJ, eq_self, decide_true, hsp, hbw]
  apply call_eq (f := 46) (fn := Tryz.f46) (by kernel_rfl) (by rfl)
  ·exact sameInts_v k.away k.away _ haw haw
  simp (maxSteps := 1000000) only [VL,VM,↓VG,reduceIte,reduceCtorEq,zA,zB,zC,zD,zE,zF,zG,zH,zI,zJ, eq_self, decide_true]
  ((repeat refine Ws ?_);refine Wr ?_)
  simp (maxSteps := 1000000) only [VL,VM,↓VG,reduceIte,reduceCtorEq,zA,zB,zC,zD,zE,zF,zG,zH,zI,zJ, k1]
  refine LoopK.mk ⟨i + 1, junk ++ [VObj.obj [vi k.lo, vi k.hi, vb k.water, intsV k.away, vi k.rent, vi k.most], VObj.obj [vi k.lo, vi k.hi, vb k.water, intsV k.away, vi k.rent, vi k.most]]⟩ (by simp only; omega) (by simp only; omega) ⟨rfl, rfl, rfl, rfl, trivial⟩ rfl
 have k2 : ((i : Int) < (h.kinds.length : Int)) = False := eq_false (by omega)
 simp (maxSteps := 1000000) only [VL,VM,↓VG,reduceIte,reduceCtorEq,zA,zB,zC,zD,zE,zF,zG,zH,zI,zJ, k2]
 ((repeat refine Ws ?_);refine Wf (by first|rfl|simp only [EV,zF,reduceIte]) ?_)
 ((repeat refine Ws ?_);refine W_exit ?_)
 simp (maxSteps := 1000000) only [VL,VM,↓VG,reduceIte,reduceCtorEq,zA,zB,zC,zD,zE,zF,zG,zH,zI,zJ]
 ((repeat refine Ws ?_);refine Wr ?_)
 simp (maxSteps := 1000000) only [VL,VM,↓VG,reduceIte,reduceCtorEq,zA,zB,zC,zD,zE,zF,zG,zH,zI,zJ]
 (repeat refine Ws ?_)
 refine W_ret ?_
 try simp only [thenQ, blockQ]
 refine own_ret1 rfl ?_ (by rfl)
 simp only [get_cons, frz, vtup, Nat.reduceEqDiff, if_true, if_false, reduceIte]
end Go.Proofs.YtominlgikchnmaaGreatDoor.Vm

/- Lists of halls and layouts, on values. (Vm) -/
namespace Go.Proofs.YtominlgikchnmaaGreatDoor.Vm
open Go Go.Proofs
abbrev hallPP (h : Ha) : List PV := [.int .i64 h.wide, .int .i64 h.deep, .sl 2 (h.water.map plP), .sl 2 (h.shut.map plP), .int .i64 h.bay.x, .int .i64 h.bay.y, .sl 1 (h.bears.map intP), .sl 6 (h.kinds.map kiP)]
theorem not_vast {h : Ha} (e : vastB h = false) : Fin h := by
 simp only [vastB, Bool.or_eq_false_iff, decide_eq_false_iff_not, List.any_eq_false] at e
 obtain ⟨⟨⟨⟨e1, e2⟩, e3⟩, e4⟩, e5⟩ := e
 refine ⟨by omega, by omega, by omega, by omega, fun k hk => ?_⟩
 have := e1 k hk
 simp at this
 omega
end Go.Proofs.YtominlgikchnmaaGreatDoor.Vm
