/- A part of the proofs about the chapter of the vaults; it states no condition of its own. -/
import Derived.Test.YtnjgdlmddlinaaaDoorB16
set_option linter.unusedVariables false
set_option linter.unusedSimpArgs false
open Int renaming reduceLE → zA, reduceLT → zB, reduceToNat → zC, reduceNeg → zD
open Nat renaming reduceLT → zE, reduceEqDiff → zF, reduceAdd → zG, reduceSub → zH, reduceMul → zI, reduceLeDiff → zJ
/- The program's check of kinds, on values. (Vm) -/
namespace Go.Proofs.YtnjgdlmddlinaaaDoor.Vm
open Go Go.Proofs
theorem away_call (n : Int) (M : Mem) : VCall Tryd.prog (.fn (.func 41) [] []) [vi n] M (fun r M' => M' = M ∧ r = vb (!inR n 0 9)) :=
 call_eq (f := 41) (fn := Tryd.f41) (by kernel_rfl) (by rfl) (args := [vi n]) (away_vm n M) ⟨rfl, rfl⟩
theorem bearsin_call (n : Int) (M : Mem) : VCall Tryd.prog (.fn (.func 24) [] []) [vi n] M (fun r M' => M' = M ∧ r = vb (!inR n 0 10000000)) :=
 call_eq (f := 24) (fn := Tryd.f24) (by kernel_rfl) (by rfl) (args := [vi n]) (bearsin_vm n M) ⟨rfl, rfl⟩
theorem kind_vm (h : Ha) (k : Ki) (M : Mem) (hl : k.away.length ≤ 1000000) (hk : h.kinds.length ≤ 1000000) : VC Tryd.prog 25 [hallV h, kiV k] M (fun r M' => M' = M ∧ r = vi (kindErr h k)) := by
 refine VC_own' T_ok (f := 25) (fn := Tryd.f25) (by kernel_rfl) rfl Tryd.ntmps25 (by rfl) (by rfl) ?_
 ((repeat refine Ws ?_);refine Wr ?_)
 simp (maxSteps := 1000000) only [VL,VM,↓VG,reduceIte,reduceCtorEq,zA,zB,zC,zD,zE,zF,zG,zH,zI,zJ]
 ((repeat refine Ws ?_);refine W_block ?_)
 ((repeat refine Ws ?_);refine Wr ?_)
 simp (maxSteps := 1000000) only [VL,VM,↓VG,reduceIte,reduceCtorEq,zA,zB,zC,zD,zE,zF,zG,zH,zI,zJ]
 apply call_eq (f := 20) (fn := Tryd.f20) (by kernel_rfl) (by rfl)
 ·exact in_vm _ _ _ _
 have e1 : kindErr h k = kindErr h k := rfl
 conv at e1 => rhs; unfold kindErr
 cases a1 : inR k.lo 0 1000000
 ·rw [a1] at e1
  simp (maxSteps := 1000000) only [VL,VM,↓VG,reduceIte,reduceCtorEq,zA,zB,zC,zD,zE,zF,zG,zH,zI,zJ]
  ((repeat refine Ws ?_);refine Wt (by first|rfl|simp only [EV,zF,reduceIte]) ?_)
  ((repeat refine Ws ?_);refine W_skip ?_)
  simp (maxSteps := 1000000) only [VL,VM,↓VG,reduceIte,reduceCtorEq,zA,zB,zC,zD,zE,zF,zG,zH,zI,zJ]
  ((repeat refine Ws ?_);refine Wt (by first|rfl|simp only [EV,zF,reduceIte]) ?_)
  ((repeat refine Ws ?_);refine Wr ?_)
  simp (maxSteps := 1000000) only [VL,VM,↓VG,reduceIte,reduceCtorEq,zA,zB,zC,zD,zE,zF,zG,zH,zI,zJ]
  (repeat refine Ws ?_)
  refine W_ret ?_
  try simp only [thenQ, blockQ]
  refine own_ret1 rfl ?_ (by rfl)
  simp only [get_cons, frz, vtup, Nat.reduceEqDiff, if_true, if_false, reduceIte]
  rw [e1]; rfl
 rw [a1] at e1
 simp (maxSteps := 1000000) only [VL,VM,↓VG,reduceIte,reduceCtorEq,zA,zB,zC,zD,zE,zF,zG,zH,zI,zJ]
 ((repeat refine Ws ?_);refine Wf (by first|rfl|simp only [EV,zF,reduceIte]) ?_)
 ((repeat refine Ws ?_);refine Wr ?_)
 simp (maxSteps := 1000000) only [VL,VM,↓VG,reduceIte,reduceCtorEq,zA,zB,zC,zD,zE,zF,zG,zH,zI,zJ]
 apply call_eq (f := 20) (fn := Tryd.f20) (by kernel_rfl) (by rfl)
 ·exact in_vm _ _ _ _
 cases a2 : inR k.hi 0 1000000
 ·rw [a2] at e1
  simp (maxSteps := 1000000) only [VL,VM,↓VG,reduceIte,reduceCtorEq,zA,zB,zC,zD,zE,zF,zG,zH,zI,zJ]
  ((repeat refine Ws ?_);refine Wt (by first|rfl|simp only [EV,zF,reduceIte]) ?_)
  ((repeat refine Ws ?_);refine Wr ?_)
  simp (maxSteps := 1000000) only [VL,VM,↓VG,reduceIte,reduceCtorEq,zA,zB,zC,zD,zE,zF,zG,zH,zI,zJ]
  (repeat refine Ws ?_)
  refine W_ret ?_
  try simp only [thenQ, blockQ]
  refine own_ret1 rfl ?_ (by rfl)
  simp only [get_cons, frz, vtup, Nat.reduceEqDiff, if_true, if_false, reduceIte]
  rw [e1]; rfl
 rw [a2] at e1
 simp (maxSteps := 1000000) only [VL,VM,↓VG,reduceIte,reduceCtorEq,zA,zB,zC,zD,zE,zF,zG,zH,zI,zJ]
 ((repeat refine Ws ?_);refine Wf (by first|rfl|simp only [EV,zF,reduceIte]) ?_)
 ((repeat refine Ws ?_);refine Wr ?_)
 by_cases a3 : k.hi < k.lo
 ·simp (maxSteps := 1000000) only [VL,VM,↓VG,reduceIte,reduceCtorEq,zA,zB,zC,zD,zE,zF,zG,zH,zI,zJ, a3]
  ((repeat refine Ws ?_);refine Wt (by first|rfl|simp only [EV,zF,reduceIte]) ?_)
  ((repeat refine Ws ?_);refine Wr ?_)
  simp (maxSteps := 1000000) only [VL,VM,↓VG,reduceIte,reduceCtorEq,zA,zB,zC,zD,zE,zF,zG,zH,zI,zJ]
  (repeat refine Ws ?_)
  refine W_ret ?_
  try simp only [thenQ, blockQ]
  refine own_ret1 rfl ?_ (by rfl)
  simp only [get_cons, frz, vtup, Nat.reduceEqDiff, if_true, if_false, reduceIte]
  simp [e1, a3]
 simp (maxSteps := 1000000) only [VL,VM,↓VG,reduceIte,reduceCtorEq,zA,zB,zC,zD,zE,zF,zG,zH,zI,zJ, a3]
 ((repeat refine Ws ?_);refine Wf (by first|rfl|simp only [EV,zF,reduceIte]) ?_)
 ((repeat refine Ws ?_);refine Wr ?_)
 by_cases a4 : k.away.length = h.kinds.length
 rotate_left
 ·have a4' : ((k.away.length : Int) = (h.kinds.length : Int)) = False := eq_false (by omega)
  simp (maxSteps := 1000000) only [VL,VM,↓VG,reduceIte,reduceCtorEq,zA,zB,zC,zD,zE,zF,zG,zH,zI,zJ, a4']
  ((repeat refine Ws ?_);refine Wt (by first|rfl|simp only [EV,zF,reduceIte]) ?_)
  ((repeat refine Ws ?_);refine Wr ?_)
  simp (maxSteps := 1000000) only [VL,VM,↓VG,reduceIte,reduceCtorEq,zA,zB,zC,zD,zE,zF,zG,zH,zI,zJ]
  (repeat refine Ws ?_)
  refine W_ret ?_
  try simp only [thenQ, blockQ]
  refine own_ret1 rfl ?_ (by rfl)
  simp only [get_cons, frz, vtup, Nat.reduceEqDiff, if_true, if_false, reduceIte]
  simp [e1, a3, a4]
 have a4' : ((k.away.length : Int) = (h.kinds.length : Int)) = True := eq_true (by omega)
 simp (maxSteps := 1000000) only [VL,VM,↓VG,reduceIte,reduceCtorEq,zA,zB,zC,zD,zE,zF,zG,zH,zI,zJ, a4']
 ((repeat refine Ws ?_);refine Wf (by first|rfl|simp only [EV,zF,reduceIte]) ?_)
 ((repeat refine Ws ?_);refine Wr ?_)
 simp (maxSteps := 1000000) only [VL,VM,↓VG,reduceIte,reduceCtorEq,zA,zB,zC,zD,zE,zF,zG,zH,zI,zJ]
 apply call_eq (f := 23) (fn := Tryd.f23) (by kernel_rfl) (by rfl)
 ·exact containsints_vm _ k.away (fun n => !inR n 0 9) _ hl rfl (fun x _ => away_call x _)
 cases a5 : k.away.any (fun n => !inR n 0 9)
 rotate_left
 ·simp (maxSteps := 1000000) only [VL,VM,↓VG,reduceIte,reduceCtorEq,zA,zB,zC,zD,zE,zF,zG,zH,zI,zJ]
  ((repeat refine Ws ?_);refine Wt (by first|rfl|simp only [EV,zF,reduceIte]) ?_)
  ((repeat refine Ws ?_);refine W_skip ?_)
  simp (maxSteps := 1000000) only [VL,VM,↓VG,reduceIte,reduceCtorEq,zA,zB,zC,zD,zE,zF,zG,zH,zI,zJ]
  ((repeat refine Ws ?_);refine Wt (by first|rfl|simp only [EV,zF,reduceIte]) ?_)
  ((repeat refine Ws ?_);refine Wr ?_)
  simp (maxSteps := 1000000) only [VL,VM,↓VG,reduceIte,reduceCtorEq,zA,zB,zC,zD,zE,zF,zG,zH,zI,zJ]
  (repeat refine Ws ?_)
  refine W_ret ?_
  try simp only [thenQ, blockQ]
  refine own_ret1 rfl ?_ (by rfl)
  simp only [get_cons, frz, vtup, Nat.reduceEqDiff, if_true, if_false, reduceIte]
  rw [e1, a5]
  simp [a3, a4]
 simp (maxSteps := 1000000) only [VL,VM,↓VG,reduceIte,reduceCtorEq,zA,zB,zC,zD,zE,zF,zG,zH,zI,zJ]
 ((repeat refine Ws ?_);refine Wf (by first|rfl|simp only [EV,zF,reduceIte]) ?_)
 ((repeat refine Ws ?_);refine Wr ?_)
 simp (maxSteps := 1000000) only [VL,VM,↓VG,reduceIte,reduceCtorEq,zA,zB,zC,zD,zE,zF,zG,zH,zI,zJ]
 apply call_eq (f := 20) (fn := Tryd.f20) (by kernel_rfl) (by rfl)
 ·exact in_vm _ _ _ _
 cases a6 : inR k.rent 0 1000000
 ·simp (maxSteps := 1000000) only [VL,VM,↓VG,reduceIte,reduceCtorEq,zA,zB,zC,zD,zE,zF,zG,zH,zI,zJ]
  ((repeat refine Ws ?_);refine Wt (by first|rfl|simp only [EV,zF,reduceIte]) ?_)
  ((repeat refine Ws ?_);refine W_skip ?_)
  simp (maxSteps := 1000000) only [VL,VM,↓VG,reduceIte,reduceCtorEq,zA,zB,zC,zD,zE,zF,zG,zH,zI,zJ]
  ((repeat refine Ws ?_);refine Wt (by first|rfl|simp only [EV,zF,reduceIte]) ?_)
  ((repeat refine Ws ?_);refine Wr ?_)
  simp (maxSteps := 1000000) only [VL,VM,↓VG,reduceIte,reduceCtorEq,zA,zB,zC,zD,zE,zF,zG,zH,zI,zJ]
  (repeat refine Ws ?_)
  refine W_ret ?_
  try simp only [thenQ, blockQ]
  refine own_ret1 rfl ?_ (by rfl)
  simp only [get_cons, frz, vtup, Nat.reduceEqDiff, if_true, if_false, reduceIte]
  rw [e1, a5, a6]
  simp [a3, a4]
 simp (maxSteps := 1000000) only [VL,VM,↓VG,reduceIte,reduceCtorEq,zA,zB,zC,zD,zE,zF,zG,zH,zI,zJ]
 ((repeat refine Ws ?_);refine Wf (by first|rfl|simp only [EV,zF,reduceIte]) ?_)
 ((repeat refine Ws ?_);refine Wr ?_)
 simp (maxSteps := 1000000) only [VL,VM,↓VG,reduceIte,reduceCtorEq,zA,zB,zC,zD,zE,zF,zG,zH,zI,zJ]
 apply call_eq (f := 20) (fn := Tryd.f20) (by kernel_rfl) (by rfl)
 ·exact in_vm _ _ _ _
 cases a7 : inR k.most 0 24
 ·simp (maxSteps := 1000000) only [VL,VM,↓VG,reduceIte,reduceCtorEq,zA,zB,zC,zD,zE,zF,zG,zH,zI,zJ]
  ((repeat refine Ws ?_);refine Wt (by first|rfl|simp only [EV,zF,reduceIte]) ?_)
  ((repeat refine Ws ?_);refine Wr ?_)
  simp (maxSteps := 1000000) only [VL,VM,↓VG,reduceIte,reduceCtorEq,zA,zB,zC,zD,zE,zF,zG,zH,zI,zJ]
  (repeat refine Ws ?_)
  refine W_ret ?_
  try simp only [thenQ, blockQ]
  refine own_ret1 rfl ?_ (by rfl)
  simp only [get_cons, frz, vtup, Nat.reduceEqDiff, if_true, if_false, reduceIte]
  rw [e1, a5, a6, a7]
  simp [a3, a4]
 simp (maxSteps := 1000000) only [VL,VM,↓VG,reduceIte,reduceCtorEq,zA,zB,zC,zD,zE,zF,zG,zH,zI,zJ]
 ((repeat refine Ws ?_);refine Wf (by first|rfl|simp only [EV,zF,reduceIte]) ?_)
 ((repeat refine Ws ?_);refine W_skip ?_)
 simp (maxSteps := 1000000) only [VL,VM,↓VG,reduceIte,reduceCtorEq,zA,zB,zC,zD,zE,zF,zG,zH,zI,zJ]
 ((repeat refine Ws ?_);refine Wr ?_)
 simp (maxSteps := 1000000) only [VL,VM,↓VG,reduceIte,reduceCtorEq,zA,zB,zC,zD,zE,zF,zG,zH,zI,zJ]
 (repeat refine Ws ?_)
 refine W_ret ?_
 try simp only [thenQ, blockQ]
 refine own_ret1 rfl ?_ (by rfl)
 simp only [get_cons, frz, vtup, Nat.reduceEqDiff, if_true, if_false, reduceIte]
 rw [e1, a5, a6, a7]
 simp [a3, a4]
end Go.Proofs.YtnjgdlmddlinaaaDoor.Vm

/- The program's check of halls, on values. (Vm) -/
namespace Go.Proofs.YtnjgdlmddlinaaaDoor.Vm
open Go Go.Proofs
theorem Small.mk' {h : Ha} (a1 : inR h.wide 1 6 = true) (a2 : inR h.deep 1 4 = true) (a3 : inR h.bay.x 1 h.wide = true) (a4 : inR h.bay.y 1 h.deep = true) : Small h := by
 rw [inR_true] at a1 a2 a3 a4
 exact ⟨a1.1, by omega, a2.1, by omega, a3.1, by omega, a4.1, by omega⟩
theorem cells_len {h : Ha} {l : List Pl} (e : cellsErr h l = 0) : l.length ≤ 24 := by
 unfold cellsErr at e
 by_cases h24 : 24 < l.length
 ·rw [if_pos h24] at e; exact absurd e (by decide)
 ·omega
end Go.Proofs.YtnjgdlmddlinaaaDoor.Vm
namespace Go.Proofs.YtnjgdlmddlinaaaDoor
open Vm in
theorem VH.water_len {h : Ha} (V : VH h) : h.water.length ≤ 1000000 := by have := cells_len V.water; omega
open Vm in
theorem VH.shut_len {h : Ha} (V : VH h) : h.shut.length ≤ 1000000 := by have := cells_len V.shut; omega
end Go.Proofs.YtnjgdlmddlinaaaDoor
namespace Go.Proofs.YtnjgdlmddlinaaaDoor.Vm
open Go Go.Proofs
structure Fin (h : Ha) : Prop where
 water : h.water.length ≤ 1000000
 shut : h.shut.length ≤ 1000000
 bears : h.bears.length ≤ 1000000
 kinds : h.kinds.length ≤ 1000000
 aways : ∀ k ∈ h.kinds, k.away.length ≤ 1000000
theorem cells_vm' (h : Ha) (l : List Pl) (M : Mem) (a1 : inR h.wide 1 6 = true) (a2 : inR h.deep 1 4 = true) (hl : l.length ≤ 1000000) : VC Tryd.prog 21 [hallV h, plsV l] M (fun r M' => M' = M ∧ r = vi (cellsErr h l)) := cells_any_vm h l M (by rw [inR_true] at a1; exact a1.1) (by rw [inR_true] at a1; omega) (by rw [inR_true] at a2; exact a2.1) (by rw [inR_true] at a2; omega) hl
structure ChkSt where
 i : Nat
 junk : List VObj
theorem check_vm (h : Ha) (M : Mem) (F : Fin h) : VC Tryd.prog 6 [hallV h] M (fun r M' => M' = M ∧ r = vi (hallErr h)) := by
 obtain ⟨f1, f2, f3, f4, f5⟩ := F
 refine VC_own' T_ok (f := 6) (fn := Tryd.f6) (by kernel_rfl) rfl Tryd.ntmps6 (by rfl) (by rfl) ?_
 ((repeat refine Ws ?_);refine Wr ?_)
 simp (maxSteps := 1000000) only [VL,VM,↓VG,reduceIte,reduceCtorEq,zA,zB,zC,zD,zE,zF,zG,zH,zI,zJ]
 ((repeat refine Ws ?_);refine Wr ?_)
 simp (maxSteps := 1000000) only [VL,VM,↓VG,reduceIte,reduceCtorEq,zA,zB,zC,zD,zE,zF,zG,zH,zI,zJ]
 have e1 : hallErr h = hallErr h := rfl
 conv at e1 => rhs; unfold hallErr
 apply call_eq (f := 20) (fn := Tryd.f20) (by kernel_rfl) (by rfl)
 ·exact in_vm _ _ _ _
 cases a1 : inR h.wide 1 6
 ·rw [a1] at e1
  simp (maxSteps := 1000000) only [VL,VM,↓VG,reduceIte,reduceCtorEq,zA,zB,zC,zD,zE,zF,zG,zH,zI,zJ]
  ((repeat refine Ws ?_);refine Wt (by first|rfl|simp only [EV,zF,reduceIte]) ?_)
  ((repeat refine Ws ?_);refine Wr ?_)
  simp (maxSteps := 1000000) only [VL,VM,↓VG,reduceIte,reduceCtorEq,zA,zB,zC,zD,zE,zF,zG,zH,zI,zJ]
  (repeat refine Ws ?_)
  refine W_ret ?_
  try simp only [thenQ, blockQ]
  refine own_ret1 rfl ?_ (by rfl)
  simp only [get_cons, frz, vtup, Nat.reduceEqDiff, if_true, if_false, reduceIte]
  rw [e1]; rfl
 rw [a1] at e1
 simp (maxSteps := 1000000) only [VL,VM,↓VG,reduceIte,reduceCtorEq,zA,zB,zC,zD,zE,zF,zG,zH,zI,zJ]
 apply call_eq (f := 20) (fn := Tryd.f20) (by kernel_rfl) (by rfl)
 ·exact in_vm _ _ _ _
 cases a2 : inR h.deep 1 4
 ·rw [a2] at e1
  simp (maxSteps := 1000000) only [VL,VM,↓VG,reduceIte,reduceCtorEq,zA,zB,zC,zD,zE,zF,zG,zH,zI,zJ]
  ((repeat refine Ws ?_);refine Wt (by first|rfl|simp only [EV,zF,reduceIte]) ?_)
  ((repeat refine Ws ?_);refine Wr ?_)
  simp (maxSteps := 1000000) only [VL,VM,↓VG,reduceIte,reduceCtorEq,zA,zB,zC,zD,zE,zF,zG,zH,zI,zJ]
  (repeat refine Ws ?_)
  refine W_ret ?_
  try simp only [thenQ, blockQ]
  refine own_ret1 rfl ?_ (by rfl)
  simp only [get_cons, frz, vtup, Nat.reduceEqDiff, if_true, if_false, reduceIte]
  rw [e1]; rfl
 rw [a2] at e1
 simp (maxSteps := 1000000) only [VL,VM,↓VG,reduceIte,reduceCtorEq,zA,zB,zC,zD,zE,zF,zG,zH,zI,zJ]
 ((repeat refine Ws ?_);refine Wf (by first|rfl|simp only [EV,zF,reduceIte]) ?_)
 ((repeat refine Ws ?_);refine W_skip ?_)
 simp (maxSteps := 1000000) only [VL,VM,↓VG,reduceIte,reduceCtorEq,zA,zB,zC,zD,zE,zF,zG,zH,zI,zJ]
 ((repeat refine Ws ?_);refine Wr ?_)
 simp (maxSteps := 1000000) only [VL,VM,↓VG,reduceIte,reduceCtorEq,zA,zB,zC,zD,zE,zF,zG,zH,zI,zJ]
 apply call_eq (f := 21) (fn := Tryd.f21) (by kernel_rfl) (by rfl)
 ·exact cells_vm' h h.water _ a1 a2 f1
 simp (maxSteps := 1000000) only [VL,VM,↓VG,reduceIte,reduceCtorEq,zA,zB,zC,zD,zE,zF,zG,zH,zI,zJ]
 ((repeat refine Ws ?_);refine Wr ?_)
 by_cases a3 : cellsErr h h.water = 0
 rotate_left
 ·simp (maxSteps := 1000000) only [VL,VM,↓VG,reduceIte,reduceCtorEq,zA,zB,zC,zD,zE,zF,zG,zH,zI,zJ, a3]
  ((repeat refine Ws ?_);refine Wt (by first|rfl|simp only [EV,zF,reduceIte]) ?_)
  ((repeat refine Ws ?_);refine Wr ?_)
  simp (maxSteps := 1000000) only [VL,VM,↓VG,reduceIte,reduceCtorEq,zA,zB,zC,zD,zE,zF,zG,zH,zI,zJ]
  (repeat refine Ws ?_)
  refine W_ret ?_
  try simp only [thenQ, blockQ]
  refine own_ret1 rfl ?_ (by rfl)
  simp only [get_cons, frz, vtup, Nat.reduceEqDiff, if_true, if_false, reduceIte]
  rw [e1]; simp [a3]
 simp (maxSteps := 1000000) only [VL,VM,↓VG,reduceIte,reduceCtorEq,zA,zB,zC,zD,zE,zF,zG,zH,zI,zJ, a3]
 ((repeat refine Ws ?_);refine Wf (by first|rfl|simp only [EV,zF,reduceIte]) ?_)
 ((repeat refine Ws ?_);refine W_skip ?_)
 simp (maxSteps := 1000000) only [VL,VM,↓VG,reduceIte,reduceCtorEq,zA,zB,zC,zD,zE,zF,zG,zH,zI,zJ]
 ((repeat refine Ws ?_);refine Wr ?_)
 simp (maxSteps := 1000000) only [VL,VM,↓VG,reduceIte,reduceCtorEq,zA,zB,zC,zD,zE,zF,zG,zH,zI,zJ]
 apply call_eq (f := 21) (fn := Tryd.f21) (by kernel_rfl) (by rfl)
 ·exact cells_vm' h h.shut _ a1 a2 f2
 simp (maxSteps := 1000000) only [VL,VM,↓VG,reduceIte,reduceCtorEq,zA,zB,zC,zD,zE,zF,zG,zH,zI,zJ]
 ((repeat refine Ws ?_);refine Wr ?_)
 by_cases a4 : cellsErr h h.shut = 0
 rotate_left
 ·simp (maxSteps := 1000000) only [VL,VM,↓VG,reduceIte,reduceCtorEq,zA,zB,zC,zD,zE,zF,zG,zH,zI,zJ, a4]
  ((repeat refine Ws ?_);refine Wt (by first|rfl|simp only [EV,zF,reduceIte]) ?_)
  ((repeat refine Ws ?_);refine Wr ?_)
  simp (maxSteps := 1000000) only [VL,VM,↓VG,reduceIte,reduceCtorEq,zA,zB,zC,zD,zE,zF,zG,zH,zI,zJ]
  (repeat refine Ws ?_)
  refine W_ret ?_
  try simp only [thenQ, blockQ]
  refine own_ret1 rfl ?_ (by rfl)
  simp only [get_cons, frz, vtup, Nat.reduceEqDiff, if_true, if_false, reduceIte]
  rw [e1]; simp [a3, a4]
 simp (maxSteps := 1000000) only [VL,VM,↓VG,reduceIte,reduceCtorEq,zA,zB,zC,zD,zE,zF,zG,zH,zI,zJ, a4]
 ((repeat refine Ws ?_);refine Wf (by first|rfl|simp only [EV,zF,reduceIte]) ?_)
 ((repeat refine Ws ?_);refine W_skip ?_)
 simp (maxSteps := 1000000) only [VL,VM,↓VG,reduceIte,reduceCtorEq,zA,zB,zC,zD,zE,zF,zG,zH,zI,zJ]
 ((repeat refine Ws ?_);refine W_block ?_)
 ((repeat refine Ws ?_);refine Wr ?_)
 simp (maxSteps := 1000000) only [VL,VM,↓VG,reduceIte,reduceCtorEq,zA,zB,zC,zD,zE,zF,zG,zH,zI,zJ]
 apply call_eq (f := 20) (fn := Tryd.f20) (by kernel_rfl) (by rfl)
 ·exact in_vm _ _ _ _
 cases a5 : inR h.bay.x 1 h.wide
 ·simp (maxSteps := 1000000) only [VL,VM,↓VG,reduceIte,reduceCtorEq,zA,zB,zC,zD,zE,zF,zG,zH,zI,zJ]
  ((repeat refine Ws ?_);refine Wt (by first|rfl|simp only [EV,zF,reduceIte]) ?_)
  ((repeat refine Ws ?_);refine W_skip ?_)
  simp (maxSteps := 1000000) only [VL,VM,↓VG,reduceIte,reduceCtorEq,zA,zB,zC,zD,zE,zF,zG,zH,zI,zJ]
  ((repeat refine Ws ?_);refine Wt (by first|rfl|simp only [EV,zF,reduceIte]) ?_)
  ((repeat refine Ws ?_);refine Wr ?_)
  simp (maxSteps := 1000000) only [VL,VM,↓VG,reduceIte,reduceCtorEq,zA,zB,zC,zD,zE,zF,zG,zH,zI,zJ]
  (repeat refine Ws ?_)
  refine W_ret ?_
  try simp only [thenQ, blockQ]
  refine own_ret1 rfl ?_ (by rfl)
  simp only [get_cons, frz, vtup, Nat.reduceEqDiff, if_true, if_false, reduceIte]
  rw [e1, a5]; simp [a3, a4]
 simp (maxSteps := 1000000) only [VL,VM,↓VG,reduceIte,reduceCtorEq,zA,zB,zC,zD,zE,zF,zG,zH,zI,zJ]
 ((repeat refine Ws ?_);refine Wf (by first|rfl|simp only [EV,zF,reduceIte]) ?_)
 ((repeat refine Ws ?_);refine Wr ?_)
 simp (maxSteps := 1000000) only [VL,VM,↓VG,reduceIte,reduceCtorEq,zA,zB,zC,zD,zE,zF,zG,zH,zI,zJ]
 apply call_eq (f := 20) (fn := Tryd.f20) (by kernel_rfl) (by rfl)
 ·exact in_vm _ _ _ _
 cases a6 : inR h.bay.y 1 h.deep
 ·simp (maxSteps := 1000000) only [VL,VM,↓VG,reduceIte,reduceCtorEq,zA,zB,zC,zD,zE,zF,zG,zH,zI,zJ]
  ((repeat refine Ws ?_);refine Wt (by first|rfl|simp only [EV,zF,reduceIte]) ?_)
  ((repeat refine Ws ?_);refine Wr ?_)
  simp (maxSteps := 1000000) only [VL,VM,↓VG,reduceIte,reduceCtorEq,zA,zB,zC,zD,zE,zF,zG,zH,zI,zJ]
  (repeat refine Ws ?_)
  refine W_ret ?_
  try simp only [thenQ, blockQ]
  refine own_ret1 rfl ?_ (by rfl)
  simp only [get_cons, frz, vtup, Nat.reduceEqDiff, if_true, if_false, reduceIte]
  rw [e1, a5, a6]; simp [a3, a4]
 have S := Small.mk' a1 a2 a5 a6
 simp (maxSteps := 1000000) only [VL,VM,↓VG,reduceIte,reduceCtorEq,zA,zB,zC,zD,zE,zF,zG,zH,zI,zJ]
 ((repeat refine Ws ?_);refine Wf (by first|rfl|simp only [EV,zF,reduceIte]) ?_)
 (repeat refine Ws ?_)
 refine W_drawP T_ok [] (by kernel_rfl) (by kernel_rfl) ?_
 generalize hi : mkPlan _ = infs
 cbv at hi
 subst hi
 simp (maxSteps := 1000000) only [VL,VM,↓VG,reduceIte,reduceCtorEq,zA,zB,zC,zD,zE,zF,zG,zH,zI,zJ]
 apply call_d (f := 22) (fn := Tryd.f22) (by kernel_rfl) (by rfl)
 ·exact bays_vm h _ S
 by_cases a7 : (h.bears.length : Int) = baysOf h
 rotate_left
 ·simp (maxSteps := 1000000) only [VL,VM,↓VG,reduceIte,reduceCtorEq,zA,zB,zC,zD,zE,zF,zG,zH,zI,zJ, a7]
  ((repeat refine Ws ?_);refine Wt (by first|rfl|simp only [EV,zF,reduceIte]) ?_)
  ((repeat refine Ws ?_);refine Wr ?_)
  simp (maxSteps := 1000000) only [VL,VM,↓VG,reduceIte,reduceCtorEq,zA,zB,zC,zD,zE,zF,zG,zH,zI,zJ]
  (repeat refine Ws ?_)
  refine W_ret ?_
  try simp only [thenQ, blockQ]
  refine own_ret1 rfl ?_ (by rfl)
  simp only [get_cons, frz, vtup, Nat.reduceEqDiff, if_true, if_false, reduceIte]
  rw [e1, a5, a6]; simp [a3, a4, a7]
 simp (maxSteps := 1000000) only [VL,VM,↓VG,reduceIte,reduceCtorEq,zA,zB,zC,zD,zE,zF,zG,zH,zI,zJ, a7]
 ((repeat refine Ws ?_);refine Wf (by first|rfl|simp only [EV,zF,reduceIte]) ?_)
 ((repeat refine Ws ?_);refine Wr ?_)
 simp (maxSteps := 1000000) only [VL,VM,↓VG,reduceIte,reduceCtorEq,zA,zB,zC,zD,zE,zF,zG,zH,zI,zJ]
 apply call_eq (f := 23) (fn := Tryd.f23) (by kernel_rfl) (by rfl)
 ·exact containsints_vm _ h.bears (fun n => !inR n 0 10000000) _ f3 rfl (fun x _ => bearsin_call x _)
 cases a8 : h.bears.any (fun n => !inR n 0 10000000)
 rotate_left
 ·simp (maxSteps := 1000000) only [VL,VM,↓VG,reduceIte,reduceCtorEq,zA,zB,zC,zD,zE,zF,zG,zH,zI,zJ]
  ((repeat refine Ws ?_);refine Wt (by first|rfl|simp only [EV,zF,reduceIte]) ?_)
  ((repeat refine Ws ?_);refine Wr ?_)
  simp (maxSteps := 1000000) only [VL,VM,↓VG,reduceIte,reduceCtorEq,zA,zB,zC,zD,zE,zF,zG,zH,zI,zJ]
  (repeat refine Ws ?_)
  refine W_ret ?_
  try simp only [thenQ, blockQ]
  refine own_ret1 rfl ?_ (by rfl)
  simp only [get_cons, frz, vtup, Nat.reduceEqDiff, if_true, if_false, reduceIte]
  rw [e1, a5, a6, a8]; simp [a3, a4, a7]
 simp (maxSteps := 1000000) only [VL,VM,↓VG,reduceIte,reduceCtorEq,zA,zB,zC,zD,zE,zF,zG,zH,zI,zJ]
 ((repeat refine Ws ?_);refine Wf (by first|rfl|simp only [EV,zF,reduceIte]) ?_)
 ((repeat refine Ws ?_);refine Wr ?_)
 by_cases a9 : h.kinds.length = 0
 ·have a9' : ((h.kinds.length : Int) = 0) = True := eq_true (by omega)
  simp (maxSteps := 1000000) only [VL,VM,↓VG,reduceIte,reduceCtorEq,zA,zB,zC,zD,zE,zF,zG,zH,zI,zJ, a9']
  ((repeat refine Ws ?_);refine Wt (by first|rfl|simp only [EV,zF,reduceIte]) ?_)
  ((repeat refine Ws ?_);refine Wr ?_)
  simp (maxSteps := 1000000) only [VL,VM,↓VG,reduceIte,reduceCtorEq,zA,zB,zC,zD,zE,zF,zG,zH,zI,zJ]
  (repeat refine Ws ?_)
  refine W_ret ?_
  try simp only [thenQ, blockQ]
  refine own_ret1 rfl ?_ (by rfl)
  simp only [get_cons, frz, vtup, Nat.reduceEqDiff, if_true, if_false, reduceIte]
  rw [e1, a5, a6, a8]; simp [a3, a4, a7, a9]
 have a9' : ((h.kinds.length : Int) = 0) = False := eq_false (by omega)
 simp (maxSteps := 1000000) only [VL,VM,↓VG,reduceIte,reduceCtorEq,zA,zB,zC,zD,zE,zF,zG,zH,zI,zJ, a9']
 ((repeat refine Ws ?_);refine Wf (by first|rfl|simp only [EV,zF,reduceIte]) ?_)
 ((repeat refine Ws ?_);refine Wr ?_)
 by_cases b1 : 6 < h.kinds.length
 ·have b1' : ((6 : Int) < (h.kinds.length : Int)) = True := eq_true (by omega)
  simp (maxSteps := 1000000) only [VL,VM,↓VG,reduceIte,reduceCtorEq,zA,zB,zC,zD,zE,zF,zG,zH,zI,zJ, b1']
  ((repeat refine Ws ?_);refine Wt (by first|rfl|simp only [EV,zF,reduceIte]) ?_)
  ((repeat refine Ws ?_);refine Wr ?_)
  simp (maxSteps := 1000000) only [VL,VM,↓VG,reduceIte,reduceCtorEq,zA,zB,zC,zD,zE,zF,zG,zH,zI,zJ]
  (repeat refine Ws ?_)
  refine W_ret ?_
  try simp only [thenQ, blockQ]
  refine own_ret1 rfl ?_ (by rfl)
  simp only [get_cons, frz, vtup, Nat.reduceEqDiff, if_true, if_false, reduceIte]
  rw [e1, a5, a6, a8]; simp [a3, a4, a7, a9, b1]
 have b1' : ((6 : Int) < (h.kinds.length : Int)) = False := eq_false (by omega)
 have e2 : hallErr h = firstErr (kindErrAt h) h.kinds.length := by rw [e1, a5, a6, a8]; simp [a3, a4, a7, a9, b1]
 clear e1
 simp (maxSteps := 1000000) only [VL,VM,↓VG,reduceIte,reduceCtorEq,zA,zB,zC,zD,zE,zF,zG,zH,zI,zJ, b1']
 ((repeat refine Ws ?_);refine Wf (by first|rfl|simp only [EV,zF,reduceIte]) ?_)
 ((repeat refine Ws ?_);refine W_skip ?_)
 simp (maxSteps := 1000000) only [VL,VM,↓VG,reduceIte,reduceCtorEq,zA,zB,zC,zD,zE,zF,zG,zH,zI,zJ]
 ((repeat refine Ws ?_);refine Wr ?_)
 simp (maxSteps := 1000000) only [VL,VM,↓VG,reduceIte,reduceCtorEq,zA,zB,zC,zD,zE,zF,zG,zH,zI,zJ]
 ((repeat refine Ws ?_);refine W_block ?_; (repeat refine Ws ?_)); refine W_loopS (fun s : ChkSt => [(0, hallV h), (1, VV.ptr M.H.length 0), (69, kisV h.kinds), (70, vi h.kinds.length), (71, vi s.i)]) (fun s => ⟨M.H ++ (VObj.obj [vi h.wide, vi h.deep, plsV h.water, plsV h.shut, vi h.bay.x, vi h.bay.y, intsV h.bears, kisV h.kinds] :: s.junk), M.lg⟩) (fun s => h.kinds.length - s.i) (fun s => s.i ≤ h.kinds.length ∧ firstErr (kindErrAt h) s.i = 0) ⟨0, []⟩ ⟨Nat.zero_le _, rfl⟩ ⟨rfl, rfl, rfl, rfl, rfl, trivial⟩ rfl ?_
 rintro ⟨i, junk⟩ ⟨hi, hno⟩
 simp only at hi hno
 have k1 : -9223372036854775808 ≤ (i : Int) + 1 ∧ (i : Int) + 1 < 9223372036854775808 := by omega
 ((repeat refine Ws ?_);refine Wr ?_)
 rcases Nat.lt_or_ge i h.kinds.length with hlt | hge
 ·have k2 : ((i : Int) < (h.kinds.length : Int)) = True := eq_true (by omega)
  have hx : h.kinds[i]? = some h.kinds[i] := List.getElem?_eq_getElem hlt
  have hx' := map_at (f := kiP) hx
  have hmem := List.getElem_mem hlt
  generalize hc : h.kinds[i] = k at hx hx' hmem
  have hke : kindErrAt h i = kindErr h k := by simp [kindErrAt, hx]
  simp (maxSteps := 1000000) only [VL,VM,↓VG,reduceIte,reduceCtorEq,zA,zB,zC,zD,zE,zF,zG,zH,zI,zJ, k2]
  ((repeat refine Ws ?_);refine Wt (by first|rfl|simp only [EV,zF,reduceIte]) ?_)
  ((repeat refine Ws ?_);refine W_skip ?_)
  simp (maxSteps := 1000000) only [VL,VM,↓VG,reduceIte,reduceCtorEq,zA,zB,zC,zD,zE,zF,zG,zH,zI,zJ]
  ((repeat refine Ws ?_);refine W_block ?_)
  ((repeat refine Ws ?_);refine Wr ?_)
  simp (maxSteps := 1000000) only [VL,VM,↓VG,reduceIte,reduceCtorEq,zA,zB,zC,zD,zE,zF,zG,zH,zI,zJ, hx']
  ((repeat refine Ws ?_);refine Wr ?_)
  simp (maxSteps := 1000000) only [VL,VM,↓VG,reduceIte,reduceCtorEq,zA,zB,zC,zD,zE,zF,zG,zH,zI,zJ]
  apply call_eq (f := 25) (fn := Tryd.f25) (by kernel_rfl) (by rfl)
  ·exact kind_vm h k _ (f5 k hmem) f4
  simp (maxSteps := 1000000) only [VL,VM,↓VG,reduceIte,reduceCtorEq,zA,zB,zC,zD,zE,zF,zG,zH,zI,zJ]
  ((repeat refine Ws ?_);refine Wr ?_)
  by_cases b2 : kindErr h k = 0
  rotate_left
  ·simp (maxSteps := 1000000) only [VL,VM,↓VG,reduceIte,reduceCtorEq,zA,zB,zC,zD,zE,zF,zG,zH,zI,zJ, b2]
   ((repeat refine Ws ?_);refine Wt (by first|rfl|simp only [EV,zF,reduceIte]) ?_)
   ((repeat refine Ws ?_);refine Wr ?_)
   simp (maxSteps := 1000000) only [VL,VM,↓VG,reduceIte,reduceCtorEq,zA,zB,zC,zD,zE,zF,zG,zH,zI,zJ]
   (repeat refine Ws ?_)
   refine W_ret ?_
   try simp only [thenQ, blockQ]
   refine own_ret1 rfl ?_ (by rfl)
   simp only [get_cons, frz, vtup, Nat.reduceEqDiff, if_true, if_false, reduceIte]
   have := firstErr_hit hno (by rw [hke]; exact b2) hlt
   rw [e2, this, hke]
  simp (maxSteps := 1000000) only [VL,VM,↓VG,reduceIte,reduceCtorEq,zA,zB,zC,zD,zE,zF,zG,zH,zI,zJ, b2]
  ((repeat refine Ws ?_);refine Wf (by first|rfl|simp only [EV,zF,reduceIte]) ?_)
  ((repeat refine Ws ?_);refine W_skip ?_)
  simp (maxSteps := 1000000) only [VL,VM,↓VG,reduceIte,reduceCtorEq,zA,zB,zC,zD,zE,zF,zG,zH,zI,zJ]
  ((repeat refine Ws ?_);refine Wr ?_)
  simp (maxSteps := 1000000) only [VL,VM,↓VG,reduceIte,reduceCtorEq,zA,zB,zC,zD,zE,zF,zG,zH,zI,zJ, k1]
  refine LoopK.mk ⟨i + 1, junk ++ [VObj.obj [vi k.lo, vi k.hi, vb k.water, intsV k.away, vi k.rent, vi k.most]]⟩ (by simp only; omega) ⟨by simp only; omega, firstErr_step hno (by rw [hke]; exact b2)⟩ ⟨rfl, rfl, rfl, rfl, rfl, trivial⟩ rfl
 ·have k2 : ((i : Int) < (h.kinds.length : Int)) = False := eq_false (by omega)
  simp (maxSteps := 1000000) only [VL,VM,↓VG,reduceIte,reduceCtorEq,zA,zB,zC,zD,zE,zF,zG,zH,zI,zJ, k2]
  ((repeat refine Ws ?_);refine Wf (by first|rfl|simp only [EV,zF,reduceIte]) ?_)
  ((repeat refine Ws ?_);refine W_exit ?_)
  simp (maxSteps := 1000000) only [VL,VM,↓VG,reduceIte,reduceCtorEq,zA,zB,zC,zD,zE,zF,zG,zH,zI,zJ]
  ((repeat refine Ws ?_);refine Wr ?_)
  simp (maxSteps := 1000000) only [VL,VM,↓VG,reduceIte,reduceCtorEq,zA,zB,zC,zD,zE,zF,zG,zH,zI,zJ]
  (repeat refine Ws ?_)
  refine W_ret ?_
  try simp only [thenQ, blockQ]
  refine own_ret1 rfl ?_ (by rfl)
  simp only [get_cons, frz, vtup, Nat.reduceEqDiff, if_true, if_false, reduceIte]
  have : i = h.kinds.length := by omega
  subst this
  rw [e2, hno]
end Go.Proofs.YtnjgdlmddlinaaaDoor.Vm
