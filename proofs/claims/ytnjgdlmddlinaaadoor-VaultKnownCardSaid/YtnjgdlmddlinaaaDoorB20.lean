/- A part of the proofs about the chapter of the vaults; it states no condition of its own. -/
import Derived.Test.YtnjgdlmddlinaaaDoorB11
import Derived.Test.YtnjgdlmddlinaaaDoorB19
import Derived.Test.YtnjgdlmddlinaaaDoorRows
import Derived.OpenShut
import Derived.Deep.RegionHeld3
import Derived.Deep.DrawnRows
import Derived.StillTailTactics
import Derived.Laws.Cover3
set_option linter.unusedVariables false
set_option linter.unusedSimpArgs false
open Int renaming reduceLE → zA, reduceLT → zB, reduceToNat → zC, reduceNeg → zD
open Nat renaming reduceLT → zE, reduceEqDiff → zF, reduceAdd → zG, reduceSub → zH, reduceMul → zI, reduceLeDiff → zJ
/- The program's Loads, Bears and Earns, on values. (Vm) -/
namespace Go.Proofs.YtnjgdlmddlinaaaDoor.Vm
open Go Go.Proofs
theorem own_ret2 {T : Tab} {f : Nat} {fn : Func} {M : Mem} {L : List VObj} {e : Env} {s t : Nat} {X Y : VV} (h1 : fn.results.toList = [.tmp s, .tmp t]) (hx : frz M.H.length (M.H ++ L) (get e s) = X) (hy : frz M.H.length (M.H ++ L) (get e t) = Y) (h2 : refs X = []) (h3 : refs Y = []) : ownQ T f fn M (fun r M' => M' = M ∧ r = .tup [X, Y]) .ret e ⟨M.H ++ L, M.lg⟩ [] :=
 own_ret (vs := [get e s, get e t]) (r := .tup [X, Y]) (by rw [h1]; rfl) (by rw [← hx, ← hy]; rfl) (by simp [refs, refsL, h2, h3]) ⟨rfl, rfl⟩
set_option maxRecDepth 100000 in
theorem bears_vm (h : Ha) (l : List Pu) (M : Mem) (V : VH h) (hg : ∀ o ∈ l, GoodP h o) (hl : l.length ≤ 500) : VC Tryd.prog 27 [hallV h, pusV l] M (fun r M' => M' = M ∧ r = vi (verdictOf h l)) := by
 have hbl := V.bears
 have hll : (loadsOf h l).length = h.bears.length := by rw [loadsOf_len]; omega
 have hbp := bays_pos V
 refine VC_own' T_ok (f := 27) (fn := Tryd.f27) (by kernel_rfl) rfl Tryd.ntmps27 (by rfl) (by rfl) ?_
 ((repeat refine Ws ?_);refine Wr ?_)
 simp (maxSteps := 1000000) only [VL,VM,↓VG,reduceIte,reduceCtorEq,zA,zB,zC,zD,zE,zF,zG,zH,zI,zJ]
 ((repeat refine Ws ?_);refine Wr ?_)
 simp (maxSteps := 1000000) only [VL,VM,↓VG,reduceIte,reduceCtorEq,zA,zB,zC,zD,zE,zF,zG,zH,zI,zJ]
 ((repeat refine Ws ?_);refine Wr ?_)
 simp (maxSteps := 1000000) only [VL,VM,↓VG,reduceIte,reduceCtorEq,zA,zB,zC,zD,zE,zF,zG,zH,zI,zJ]
 apply call_eq (f := 37) (fn := Tryd.f37) (by kernel_rfl) (by rfl)
 ·exact loads_vm h l _ V hg hl
 simp (maxSteps := 1000000) only [VL,VM,↓VG,reduceIte,reduceCtorEq,zA,zB,zC,zD,zE,zF,zG,zH,zI,zJ, hll]
 ((repeat refine Ws ?_);refine W_block ?_; (repeat refine Ws ?_)); refine W_loopS (fun s : ChkSt => [(0, hallV h), (1, pusV l), (2, .ptr M.H.length 0), (5, vi (if fitsHi h l s.i then 1 else 3)), (10, spsV (loadsOf h l)), (11, vi h.bears.length), (12, vi s.i)]) (fun s => ⟨M.H ++ (VObj.obj (hallC h) :: s.junk), M.lg⟩) (fun s => h.bears.length - s.i) (fun s => s.i ≤ h.bears.length ∧ fitsLo h l s.i = true) ⟨0, []⟩ ⟨Nat.zero_le _, rfl⟩ ⟨rfl, rfl, rfl, rfl, rfl, rfl, rfl, trivial⟩ rfl ?_
 rintro ⟨i, junk⟩ ⟨hi, hlo⟩
 simp only at hi hlo
 have k1 : -9223372036854775808 ≤ (i : Int) + 1 ∧ (i : Int) + 1 < 9223372036854775808 := by omega
 ((repeat refine Ws ?_);refine Wr ?_)
 rcases Nat.lt_or_ge i h.bears.length with hlt | hge
 ·have k2 : ((i : Int) < (h.bears.length : Int)) = True := eq_true (by omega)
  have hx : h.bears[i]? = some h.bears[i] := List.getElem?_eq_getElem hlt
  have hx' := map_at (f := intP) hx
  have hy := loadsOf_at (h := h) (l := l) (k := i) (by omega)
  have hy' := map_at (f := spP) hy
  have hgd : h.bears.getD i 0 = h.bears[i] := by simp [hlt]
  generalize hc : h.bears[i] = b at hx hx' hgd
  have f1 := fitsHi_step h l i
  have f2 := fitsLo_step h l i
  rw [hgd] at f1 f2
  simp (maxSteps := 1000000) only [VL,VM,↓VG,reduceIte,reduceCtorEq,zA,zB,zC,zD,zE,zF,zG,zH,zI,zJ, k2]
  ((repeat refine Ws ?_);refine Wt (by first|rfl|simp only [EV,zF,reduceIte]) ?_)
  ((repeat refine Ws ?_);refine W_skip ?_)
  simp (maxSteps := 1000000) only [VL,VM,↓VG,reduceIte,reduceCtorEq,zA,zB,zC,zD,zE,zF,zG,zH,zI,zJ]
  ((repeat refine Ws ?_);refine W_block ?_)
  ((repeat refine Ws ?_);refine Wr ?_)
  simp (maxSteps := 1000000) only [VL,VM,↓VG,reduceIte,reduceCtorEq,zA,zB,zC,zD,zE,zF,zG,zH,zI,zJ, hy']
  ((repeat refine Ws ?_);refine W_block ?_)
  (repeat refine Ws ?_)
  refine W_drawP T_ok [] (by kernel_rfl) (by kernel_rfl) ?_
  generalize hi : mkPlan _ = infs
  cbv at hi
  subst hi
  by_cases a1 : b < (loadAt h l i).lo
  ·simp (maxSteps := 1000000) only [VL,VM,↓VG,reduceIte,reduceCtorEq,zA,zB,zC,zD,zE,zF,zG,zH,zI,zJ, hx', a1]
   ((repeat refine Ws ?_);refine Wt (by first|rfl|simp only [EV,zF,reduceIte]) ?_)
   ((repeat refine Ws ?_);refine Wr ?_)
   simp (maxSteps := 1000000) only [VL,VM,↓VG,reduceIte,reduceCtorEq,zA,zB,zC,zD,zE,zF,zG,zH,zI,zJ]
   (repeat refine Ws ?_)
   refine W_ret ?_
   try simp only [thenQ, blockQ]
   refine own_ret1 rfl ?_ (by rfl)
   simp only [get_cons, frz, vtup, Nat.reduceEqDiff, if_true, if_false, reduceIte]
   have q1 : fitsLo h l h.bears.length = false := by
    cases hq : fitsLo h l h.bears.length
    ·rfl
    ·unfold fitsLo at hq
     rw [List.all_eq_true] at hq
     have := hq i (List.mem_range.2 hlt)
     rw [hgd] at this
     simp at this
     omega
   have q2 : fitsHi h l h.bears.length = false := by
    cases hq : fitsHi h l h.bears.length
    ·rfl
    ·unfold fitsHi at hq
     rw [List.all_eq_true] at hq
     have := hq i (List.mem_range.2 hlt)
     rw [hgd] at this
     have h3 := loadAt_lohi V hg i
     simp at this
     omega
   rw [verdictOf, q1, q2]; rfl
  ·simp (maxSteps := 1000000) only [VL,VM,↓VG,reduceIte,reduceCtorEq,zA,zB,zC,zD,zE,zF,zG,zH,zI,zJ, hx', a1]
   ((repeat refine Ws ?_);refine Wf (by first|rfl|simp only [EV,zF,reduceIte]) ?_)
   (repeat refine Ws ?_)
   refine W_drawP T_ok [] (by kernel_rfl) (by kernel_rfl) ?_
   generalize hi : mkPlan _ = infs
   cbv at hi
   subst hi
   by_cases a2 : b < (loadAt h l i).hi
   ·simp (maxSteps := 1000000) only [VL,VM,↓VG,reduceIte,reduceCtorEq,zA,zB,zC,zD,zE,zF,zG,zH,zI,zJ, hx', a2]
    ((repeat refine Ws ?_);refine Wt (by first|rfl|simp only [EV,zF,reduceIte]) ?_)
    ((repeat refine Ws ?_);refine Wr ?_)
    simp (maxSteps := 1000000) only [VL,VM,↓VG,reduceIte,reduceCtorEq,zA,zB,zC,zD,zE,zF,zG,zH,zI,zJ]
    ((repeat refine Ws ?_);refine Wr ?_)
    simp (maxSteps := 1000000) only [VL,VM,↓VG,reduceIte,reduceCtorEq,zA,zB,zC,zD,zE,zF,zG,zH,zI,zJ, k1]
    refine LoopK.mk ⟨i + 1, junk ++ [VObj.obj [vi (loadAt h l i).lo, vi (loadAt h l i).hi]]⟩ (by simp only; omega) ⟨by simp only; omega, by simp only; rw [f2, hlo]; simp; omega⟩ ⟨rfl, rfl, rfl, ?_, rfl, rfl, rfl, trivial⟩ rfl
    rw [f1, decide_eq_false (by omega), Bool.and_false]; rfl
   ·simp (maxSteps := 1000000) only [VL,VM,↓VG,reduceIte,reduceCtorEq,zA,zB,zC,zD,zE,zF,zG,zH,zI,zJ, hx', a2]
    ((repeat refine Ws ?_);refine Wf (by first|rfl|simp only [EV,zF,reduceIte]) ?_)
    ((repeat refine Ws ?_);refine W_skip ?_)
    simp (maxSteps := 1000000) only [VL,VM,↓VG,reduceIte,reduceCtorEq,zA,zB,zC,zD,zE,zF,zG,zH,zI,zJ]
    ((repeat refine Ws ?_);refine Wr ?_)
    simp (maxSteps := 1000000) only [VL,VM,↓VG,reduceIte,reduceCtorEq,zA,zB,zC,zD,zE,zF,zG,zH,zI,zJ, k1]
    refine LoopK.mk ⟨i + 1, junk ++ [VObj.obj [vi (loadAt h l i).lo, vi (loadAt h l i).hi]]⟩ (by simp only; omega) ⟨by simp only; omega, by simp only; rw [f2, hlo]; simp; omega⟩ ⟨rfl, rfl, rfl, ?_, rfl, rfl, rfl, trivial⟩ rfl
    rw [f1, decide_eq_true (by omega), Bool.and_true]; rfl
 ·have k2 : ((i : Int) < (h.bears.length : Int)) = False := eq_false (by omega)
  obtain rfl : i = h.bears.length := by omega
  simp (maxSteps := 1000000) only [VL,VM,↓VG,reduceIte,reduceCtorEq,zA,zB,zC,zD,zE,zF,zG,zH,zI,zJ, k2]
  ((repeat refine Ws ?_);refine Wf (by first|rfl|simp only [EV,zF,reduceIte]) ?_)
  ((repeat refine Ws ?_);refine W_exit ?_)
  simp (maxSteps := 1000000) only [VL,VM,↓VG,reduceIte,reduceCtorEq,zA,zB,zC,zD,zE,zF,zG,zH,zI,zJ]
  ((repeat refine Ws ?_);refine Wr ?_)
  simp (maxSteps := 1000000) only [VL,VM,↓VG,reduceIte,reduceCtorEq,zA,zB,zC,zD,zE,zF,zG,zH,zI,zJ]
  (repeat refine Ws ?_)
  refine W_ret ?_
  try simp only [thenQ, blockQ]
  refine own_ret1 rfl ?_ (by rfl)
  simp only [get_cons, frz, vtup, Nat.reduceEqDiff, if_true, if_false, reduceIte]
  rw [verdictOf, hlo]; rfl
def loadsR (h : Ha) (l : List Pu) : VV := if layoutErr h l = 0 then spsV (loadsOf h l) else .p (.sl 0 [])
theorem Loads_vm (h : Ha) (l : List Pu) (M : Mem) (F : Fin h) (hl : l.length ≤ 1000000) : VC Tryd.prog 18 [hallV h, pusV l] M (fun r M' => M' = M ∧ r = .tup [loadsR h l, vi (layoutErr h l)]) := by
 refine VC_own' T_ok (f := 18) (fn := Tryd.f18) (by kernel_rfl) rfl Tryd.ntmps18 (by rfl) (by rfl) ?_
 ((repeat refine Ws ?_);refine Wr ?_)
 simp (maxSteps := 1000000) only [VL,VM,↓VG,reduceIte,reduceCtorEq,zA,zB,zC,zD,zE,zF,zG,zH,zI,zJ]
 ((repeat refine Ws ?_);refine Wr ?_)
 simp (maxSteps := 1000000) only [VL,VM,↓VG,reduceIte,reduceCtorEq,zA,zB,zC,zD,zE,zF,zG,zH,zI,zJ]
 apply call_eq (f := 7) (fn := Tryd.f7) (by kernel_rfl) (by rfl)
 ·exact checkLayout_vm h l _ F hl
 simp (maxSteps := 1000000) only [VL,VM,↓VG,reduceIte,reduceCtorEq,zA,zB,zC,zD,zE,zF,zG,zH,zI,zJ]
 ((repeat refine Ws ?_);refine Wr ?_)
 by_cases e : layoutErr h l = 0
 ·have hL := (layout_ok.1 e).2
  have := lay_len hL
  simp (maxSteps := 1000000) only [VL,VM,↓VG,reduceIte,reduceCtorEq,zA,zB,zC,zD,zE,zF,zG,zH,zI,zJ, e]
  ((repeat refine Ws ?_);refine Wf (by first|rfl|simp only [EV,zF,reduceIte]) ?_)
  ((repeat refine Ws ?_);refine W_skip ?_)
  simp (maxSteps := 1000000) only [VL,VM,↓VG,reduceIte,reduceCtorEq,zA,zB,zC,zD,zE,zF,zG,zH,zI,zJ]
  ((repeat refine Ws ?_);refine Wr ?_)
  simp (maxSteps := 1000000) only [VL,VM,↓VG,reduceIte,reduceCtorEq,zA,zB,zC,zD,zE,zF,zG,zH,zI,zJ]
  apply call_eq (f := 37) (fn := Tryd.f37) (by kernel_rfl) (by rfl)
  ·exact loads_vm h l _ (VH.of (layout_ok.1 e).1) (lay_good hL) (by omega)
  simp (maxSteps := 1000000) only [VL,VM,↓VG,reduceIte,reduceCtorEq,zA,zB,zC,zD,zE,zF,zG,zH,zI,zJ]
  (repeat refine Ws ?_)
  refine W_ret ?_
  try simp only [thenQ, blockQ]
  refine own_ret2 rfl ?_ rfl ?_ rfl
  ·simp [get_cons, frz, loadsR, e]
  ·simp [loadsR, e, refs]
 ·simp (maxSteps := 1000000) only [VL,VM,↓VG,reduceIte,reduceCtorEq,zA,zB,zC,zD,zE,zF,zG,zH,zI,zJ, e]
  ((repeat refine Ws ?_);refine Wt (by first|rfl|simp only [EV,zF,reduceIte]) ?_)
  ((repeat refine Ws ?_);refine Wr ?_)
  simp (maxSteps := 1000000) only [VL,VM,↓VG,reduceIte,reduceCtorEq,zA,zB,zC,zD,zE,zF,zG,zH,zI,zJ]
  (repeat refine Ws ?_)
  refine W_ret ?_
  try simp only [thenQ, blockQ]
  refine own_ret2 rfl ?_ rfl ?_ rfl
  ·simp [get_cons, frz, loadsR, e]
  ·simp [loadsR, e, refs]
theorem Bears_vm (h : Ha) (l : List Pu) (M : Mem) (F : Fin h) (hl : l.length ≤ 1000000) : VC Tryd.prog 10 [hallV h, pusV l] M (fun r M' => M' = M ∧ r = .tup [vi (bearsOut h l), vi (layoutErr h l)]) := by
 refine VC_own' T_ok (f := 10) (fn := Tryd.f10) (by kernel_rfl) rfl Tryd.ntmps10 (by rfl) (by rfl) ?_
 ((repeat refine Ws ?_);refine Wr ?_)
 simp (maxSteps := 1000000) only [VL,VM,↓VG,reduceIte,reduceCtorEq,zA,zB,zC,zD,zE,zF,zG,zH,zI,zJ]
 ((repeat refine Ws ?_);refine Wr ?_)
 simp (maxSteps := 1000000) only [VL,VM,↓VG,reduceIte,reduceCtorEq,zA,zB,zC,zD,zE,zF,zG,zH,zI,zJ]
 apply call_eq (f := 7) (fn := Tryd.f7) (by kernel_rfl) (by rfl)
 ·exact checkLayout_vm h l _ F hl
 simp (maxSteps := 1000000) only [VL,VM,↓VG,reduceIte,reduceCtorEq,zA,zB,zC,zD,zE,zF,zG,zH,zI,zJ]
 ((repeat refine Ws ?_);refine Wr ?_)
 by_cases e : layoutErr h l = 0
 ·have hL := (layout_ok.1 e).2
  have := lay_len hL
  simp (maxSteps := 1000000) only [VL,VM,↓VG,reduceIte,reduceCtorEq,zA,zB,zC,zD,zE,zF,zG,zH,zI,zJ, e]
  ((repeat refine Ws ?_);refine Wf (by first|rfl|simp only [EV,zF,reduceIte]) ?_)
  ((repeat refine Ws ?_);refine W_skip ?_)
  simp (maxSteps := 1000000) only [VL,VM,↓VG,reduceIte,reduceCtorEq,zA,zB,zC,zD,zE,zF,zG,zH,zI,zJ]
  ((repeat refine Ws ?_);refine Wr ?_)
  simp (maxSteps := 1000000) only [VL,VM,↓VG,reduceIte,reduceCtorEq,zA,zB,zC,zD,zE,zF,zG,zH,zI,zJ]
  apply call_eq (f := 27) (fn := Tryd.f27) (by kernel_rfl) (by rfl)
  ·exact bears_vm h l _ (VH.of (layout_ok.1 e).1) (lay_good hL) (by omega)
  simp (maxSteps := 1000000) only [VL,VM,↓VG,reduceIte,reduceCtorEq,zA,zB,zC,zD,zE,zF,zG,zH,zI,zJ]
  (repeat refine Ws ?_)
  refine W_ret ?_
  try simp only [thenQ, blockQ]
  refine own_ret2 rfl ?_ rfl rfl rfl
  simp [get_cons, frz, bearsOut, e]
 ·simp (maxSteps := 1000000) only [VL,VM,↓VG,reduceIte,reduceCtorEq,zA,zB,zC,zD,zE,zF,zG,zH,zI,zJ, e]
  ((repeat refine Ws ?_);refine Wt (by first|rfl|simp only [EV,zF,reduceIte]) ?_)
  ((repeat refine Ws ?_);refine Wr ?_)
  simp (maxSteps := 1000000) only [VL,VM,↓VG,reduceIte,reduceCtorEq,zA,zB,zC,zD,zE,zF,zG,zH,zI,zJ]
  (repeat refine Ws ?_)
  refine W_ret ?_
  try simp only [thenQ, blockQ]
  refine own_ret2 rfl ?_ rfl rfl rfl
  simp [get_cons, frz, bearsOut, e]
end Go.Proofs.YtnjgdlmddlinaaaDoor.Vm

/- The reference's small functions, on values. (Vm) -/
namespace Go.Proofs.YtnjgdlmddlinaaaDoor.Vm
open Go Go.Proofs
end Go.Proofs.YtnjgdlmddlinaaaDoor.Vm

/- The reference's checks of kinds and halls, on values. (Vm) -/
namespace Go.Proofs.YtnjgdlmddlinaaaDoor.Vm
open Go Go.Proofs
end Go.Proofs.YtnjgdlmddlinaaaDoor.Vm

/- The reference's checks of layouts, on values. (Vm) -/
namespace Go.Proofs.YtnjgdlmddlinaaaDoor.Vm
open Go Go.Proofs
end Go.Proofs.YtnjgdlmddlinaaaDoor.Vm

/- The reference's layouts and places, on values. (Vm) -/
namespace Go.Proofs.YtnjgdlmddlinaaaDoor.Vm
open Go Go.Proofs
end Go.Proofs.YtnjgdlmddlinaaaDoor.Vm

/- Dice: what they show is within bounds; they change themselves alone. -/
namespace Go.Proofs.YtnjgdlmddlinaaaDoor
open Go.RowKit
attribute [local go_sem ↓] Go.wp_at_zero Go.wp_at_succ

theorem Sl.lit {w : World} {g : Nat} {xs : List Int} (h : Blk w g 3 (xs.map (Value.int .i64)).toArray) (hl : xs.length ≤ maxLen) : Sl w w.heap.size 1 intC (.slice (some ⟨g, 0, none⟩) xs.length xs.length) xs := by
 refine Sl.of_blk h h.lt hl fun i x hx j u hu => ?_
 match j, hu with
 | 0, hu => simp [intC] at hu; subst hu; simp [hx]
 | j + 1, hu => simp [intC] at hu

end Go.Proofs.YtnjgdlmddlinaaaDoor

/- Dice, on values. (Vm) -/
namespace Go.Proofs.YtnjgdlmddlinaaaDoor.Vm
open Go Go.Proofs
def xorU (a b : Int) : Int := IntKind.u64.wrap (BitVec.ofInt 64 a ^^^ BitVec.ofInt 64 b).toNat
def wrU (a : Int) : Int := IntKind.u64.wrap a
def shU (a y : Int) : Int := a.fdiv (2 ^ (min y.toNat 64))
section
variable {H0 : List VObj} {d : Nat} (hd : d < H0.length) {u : Int} {L : List VObj}
include hd
end
def nextU (u : Int) : Int := wrU (u + 11562461410679940143)
def rollV (u : Int) : Int :=
 let x0 := nextU u
 let x1 := wrU (xorU x0 (shU x0 30) * 13787848793156543929)
 let x2 := wrU (xorU x1 (shU x1 27) * 10723151780598845931)
 xorU x2 (shU x2 31)
def castF (u n : Int) : Int := if n < 2 then 0 else IntKind.i64.wrap ((shU (rollV u) 2).tmod (wrU n))
def castU (u n : Int) : Int := if n < 2 then u else nextU u
def fromF (u lo hi : Int) : Int := lo + castF u (hi - lo + 1)
def fromU (u lo hi : Int) : Int := castU u (hi - lo + 1)
def oneF (u : Int) (xs : List Int) : Int := xs.getD (castF u xs.length).toNat 0
def oneU (u : Int) (xs : List Int) : Int := castU u xs.length
end Go.Proofs.YtnjgdlmddlinaaaDoor.Vm

/- Dice, on values, part 2. (Vm) -/
namespace Go.Proofs.YtnjgdlmddlinaaaDoor.Vm
open Go Go.Proofs
section
variable {H0 : List VObj} {d : Nat} (hd : d < H0.length) {u : Int} {L : List VObj}
include hd
end
end Go.Proofs.YtnjgdlmddlinaaaDoor.Vm

/- Dice, the second part. -/
namespace Go.Proofs.YtnjgdlmddlinaaaDoor
open Go.RowKit
attribute [local go_sem ↓] Go.wp_at_zero Go.wp_at_succ
theorem swap_perm {α : Type} (x : α) : ∀ (p : List α) (c : Nat) (h : c < p.length), (p.set c x ++ [p[c]]).Perm (p ++ [x])
 | [], c, h => by simp at h
 | a :: l, 0, h => by
  simp only [List.set_cons_zero, List.getElem_cons_zero, List.cons_append]
  refine (List.Perm.cons x (List.perm_append_singleton a l)).trans ((List.Perm.swap _ _ _).trans (List.Perm.cons a (List.perm_append_singleton x l).symm))
 | a :: l, c + 1, h => by
  simp only [List.set_cons_succ, List.getElem_cons_succ, List.cons_append]
  exact List.Perm.cons a (swap_perm x l c (by simpa using h))
def Shuf (m k : Nat) (xs : List Int) : Prop := ∃ p : List Nat, p.Perm (List.range k) ∧ xs = p.map (fun i : Nat => (i : Int)) ++ List.replicate (m - k) 0
theorem Shuf.len {m k : Nat} {xs : List Int} (h : Shuf m k xs) (hk : k ≤ m) : xs.length = m := by
 obtain ⟨p, hp, rfl⟩ := h
 have := hp.length_eq
 simp at this
 simp [this]; omega
theorem Shuf.step {m k c : Nat} {xs : List Int} (h : Shuf m k xs) (hk : k < m) (hc : c ≤ k) (x : Int) (hx : xs[c]? = some x) : Shuf m (k + 1) ((xs.set k x).set c k) := by
 obtain ⟨p, hp, rfl⟩ := h
 have hl : p.length = k := by have := hp.length_eq; simpa using this
 have hrep : List.replicate (m - k) (0 : Int) = 0 :: List.replicate (m - (k + 1)) 0 := by rw [← List.replicate_succ]; congr 1; omega
 have e1 : ((p.map (fun i : Nat => (i : Int))) ++ List.replicate (m - k) 0).set k x = p.map (fun i : Nat => (i : Int)) ++ x :: List.replicate (m - (k + 1)) 0 := by
  rw [List.set_append_right _ _ (by simp [hl]), hrep]; simp [hl]
 rw [e1]
 rcases Nat.lt_or_ge c k with hck | hck
 ·have hx' : x = (p[c]'(by omega) : Nat) := by
   rw [List.getElem?_append_left (by simp; omega)] at hx
   simp [show c < p.length by omega] at hx
   exact hx.symm
  refine ⟨p.set c k ++ [p[c]'(by omega)], ?_, ?_⟩
  ·refine (swap_perm k p c (by omega)).trans ?_
   rw [List.range_succ]
   exact hp.append (List.Perm.refl _)
  ·rw [List.set_append_left _ _ (by simp; omega), hx']
   simp [List.map_set]
 ·have : c = k := by omega
  subst this
  refine ⟨p ++ [c], ?_, ?_⟩
  ·rw [List.range_succ]; exact hp.append (List.Perm.refl _)
  ·rw [List.set_append_right _ _ (by simp [hl])]
   simp [hl]
end Go.Proofs.YtnjgdlmddlinaaaDoor

/- Dice, on values, part 3. (Vm) -/
namespace Go.Proofs.YtnjgdlmddlinaaaDoor.Vm
open Go Go.Proofs
end Go.Proofs.YtnjgdlmddlinaaaDoor.Vm

/- Dice made of numbers, places, loads, on values. (Vm) -/
namespace Go.Proofs.YtnjgdlmddlinaaaDoor.Vm
open Go Go.Proofs
theorem VC_esc {P : Program} {T : Tab} (hT : TabOk P T) {f : Nat} {fn : Func} {c : Code} {nt : Nat} {args : List VV} {M : Mem} {Q : VV → Mem → Prop} (hf : T.fn f = some fn) (hb : fn.body = some c) (hnt : fn.ntmps = nt) (hn : Nat.ble args.length nt = true) (hk : T.keeps f = false)
  (h : WCode P ⟨f, none, nt⟩ c (zipEnv 0 args) M [] (fun ex e M' D => (ex = .normal ∨ ex = .ret) ∧ D = [] ∧ ∃ vs, vresL T e M' fn.results.toList = some vs ∧ (∃ x ∈ refs (frz M.H.length M'.H (vtup vs)), M.H.length ≤ x) ∧ Q (vtup vs) M')) : VC P f args M Q := by
 subst hnt
 refine VC_fn hT hf hb (Nat.le_of_ble_eq_true hn) fun hlg => h.mono ?_
 rintro ex e M' D ⟨hex, rfl, vs, h1, ⟨x, hx, hx2⟩, h3⟩
 have key : retQ T f M.H.length fn Q .ret e M' [] := by
  simp only [retQ, vkill]
  have hM : ({ M' with H := M'.H } : Mem) = M' := rfl
  rw [hM, h1]
  simp only
  have q3 : ((refs (frz M.H.length M'.H (vtup vs))).all (Nat.blt · M.H.length)) = false := by
   rw [List.all_eq_false]
   exact ⟨x, hx, by rw [Nat.blt_eq]; omega⟩
  unfold vfinish
  rw [hk, q3, Bool.and_false]
  exact h3
 rcases hex with rfl | rfl
 ·exact key
 ·exact key
end Go.Proofs.YtnjgdlmddlinaaaDoor.Vm

/- What bays carry, on values. (Vm) -/
namespace Go.Proofs.YtnjgdlmddlinaaaDoor.Vm
open Go Go.Proofs
end Go.Proofs.YtnjgdlmddlinaaaDoor.Vm

/- Layouts made of numbers, on values. (Vm) -/
namespace Go.Proofs.YtnjgdlmddlinaaaDoor.Vm
open Go Go.Proofs
theorem VC_keep {P : Program} {T : Tab} (hT : TabOk P T) {f : Nat} {fn : Func} {c : Code} {nt : Nat} {args : List VV} {M : Mem} {Q : VV → Mem → Prop} (hf : T.fn f = some fn) (hb : fn.body = some c) (hnt : fn.ntmps = nt) (hn : Nat.ble args.length nt = true) (hk : T.keeps f = true)
  (h : WCode P ⟨f, none, nt⟩ c (zipEnv 0 args) M [] (fun ex e M' D => (ex = .normal ∨ ex = .ret) ∧ D = [] ∧ ∃ vs, vresL T e M' fn.results.toList = some vs ∧ Q (vtup vs) M')) : VC P f args M Q := by
 subst hnt
 refine VC_fn hT hf hb (Nat.le_of_ble_eq_true hn) fun hlg => h.mono ?_
 rintro ex e M' D ⟨hex, rfl, vs, h1, h3⟩
 have key : retQ T f M.H.length fn Q .ret e M' [] := by
  simp only [retQ, vkill]
  have hM : ({ M' with H := M'.H } : Mem) = M' := rfl
  rw [hM, h1]
  simp only
  unfold vfinish
  rw [hk]
  exact h3
 rcases hex with rfl | rfl
 ·exact key
 ·exact key
theorem callk_eq {f : Nat} {fn : Func} {args : List VV} {M M1 : Mem} {v : VV} (hf : T.fn f = some fn) (hk : T.keeps f = true) (h : VC Tryd.prog f args M (fun r M' => M' = M1 ∧ r = v)) {Q : VV → Mem → Prop} (hq : Q v M1) : VCall Tryd.prog (.fn (.func f) [] []) args M Q :=
 (VCall_fn T_ok hf (by
   have : (sarg T f) = id := funext fun v => by simp [sarg, hk]
   simpa [this] using h)).mono fun r M' e => by obtain ⟨rfl, rfl⟩ := e; exact hq
theorem callk_d {f : Nat} {fn : Func} {args : List VV} {M M1 : Mem} {v : VV} (hf : T.fn f = some fn) (hk : T.keeps f = true) (h : VC Tryd.prog f args M (fun r M' => M' = M1 ∧ r = v)) {R : VV → Mem → Prop} (hq : R v M1) : DCallK Tryd.prog (.fn (.func f) [] []) args M R :=
 ⟨v, M1, callk_eq hf hk h ⟨rfl, rfl⟩, hq⟩
end Go.Proofs.YtnjgdlmddlinaaaDoor.Vm

/- Copies that may be nil, on values. (Vm) -/
namespace Go.Proofs.YtnjgdlmddlinaaaDoor.Vm
open Go Go.Proofs
theorem run_eql_nil {P : Program} (w : World) (t e : TypeId) (a : Option Addr) (l c : Nat) (h : P.underlying t = some (.slice e)) : (binOp .eql t (.slice a l c) (.slice none 0 0)).run P w = .ok (.bool a.isNone) w := by
 simp only [binOp]
 simp [run_equal_slice_nil w t e a l c h]
theorem W_niltest {cx : Cx} {e : Env} {M : Mem} {D : List Nat} {Q : PQ} {id d0 d1 x k t yt et ty0 ty1 : Nat} {p0 p1 : String} {af0 af1 : Array Edge} {xs : List (List PV)} (ht : Tryd.prog.underlying t = some (.slice et)) (hx : get e x = .p (.sl k xs)) (h0 : d0 < cx.nt) (h1 : d1 < cx.nt)
  (h : ∀ b, (b = true → xs = []) → Q .normal ((d1, vb b) :: (d0, .p (.sl k xs)) :: e) M D) :
  WCode Tryd.prog cx (.region id #[{ dst := some d0, op := .move (.tmp x), type := ty0, pos := p0, after := af0, guard := none }, { dst := some d1, op := .binOp .eql t (.tmp d0) (.const (.slice none 0 0)) yt, type := ty1, pos := p1, after := af1, guard := none }] false) e M D Q := by
 intro G w K a hs
 refine wpIn_region ?_
 show wpOpsIn (fence (cx.rd.bind K)) 0 Tryd.prog _ _ (List.range' 0 2) a w
 simp only [List.range'_succ, List.range'_zero, wpOpsIn, List.getElem?_toArray, List.getElem?_cons_zero, List.getElem?_cons_succ, Region.wanted, if_true]
 refine wop_ok (T := T) (o := { dst := some d0, op := .move (.tmp x), type := ty0, pos := p0, after := af0, guard := none }) T_ok hs.fr hs.inv (Qv := fun v M' => v = .p (.sl k xs) ∧ M' = M) (by show _ ∧ _; exact ⟨hx, rfl⟩) ?_
 rintro rv v w' K' M' ⟨rfl, rfl⟩ hr hc hE hI
 obtain ⟨hf', hd'⟩ := put_ok (hs.fr.ext hE) (dst := some d0) (e' := (d0, .p (.sl k xs)) :: e) (by simp [vput, nat_blt, h0]) hr hc
 have hr0 := (hf'.ev (.tmp d0)).1
 rw [show ev ((d0, .p (.sl k xs)) :: e) (.tmp d0) = .p (.sl k xs) by simp [ev, get_cons]] at hr0
 refine ⟨fun _ _ => trivial, ?_⟩
 rw [Oper.semAt_eq _ _ _ (fun c hc => by cases hc)]
 generalize hv : (a.put (some d0) rv).eval (.tmp d0) = v0 at hr0
 cases hr0 with
 | p _ _ hp =>
 cases hp with
 | sl A c _ b off _ f q1 q2 q3 q4 q5 q6 q7 =>
 have hrun : (execOp (a.put (some d0) rv).eval { dst := some d1, op := .binOp .eql t (.tmp d0) (.const (.slice none 0 0)) yt, type := ty1, pos := p1, after := af1, guard := none }).run Tryd.prog w' = .ok (.value (.bool A.isNone)) w' := by
  simp only [execOp]
  rw [hv]
  have h9 := run_eql_nil (P := Tryd.prog) w' t et A xs.length c ht
  exact run_bind_ok h9
 rw [hrun]
 have hb : A.isNone = true → xs = [] := fun hn => by
  cases xs with
  | nil => rfl
  | cons y ys =>
   rw [q4 (by simp)] at hn
   cases hn
 obtain ⟨hf2, hd2⟩ := put_ok (dst := some d1) (e' := (d1, vb A.isNone) :: (d0, .p (.sl k xs)) :: e) (rv := .bool A.isNone) hf' (by simp [vput, nat_blt, h1]) (.p _ _ (.bool _)) (fun r hr => by simp [refs] at hr)
 exact ⟨_, M', K', D, h _ hb, trivial, ⟨hf2, by rw [hd2, hd']; exact df_ext hE hs.df, hI, (rd_ext hE hs.rd).1⟩, hE⟩
theorem clone_v (k : Nat) (l : List (List PV)) (M : Mem) (hk : k = 3 ∨ l = []) (hl : l.length ≤ 1000000) : VC Tryd.prog 29 [.p (.sl k l)] M (fun r M' => M' = ⟨M.H ++ [.clm l.length 3], M.lg⟩ ∧ r = .so M.H.length 3 l) := by
 have q1 : (l.length * 24 ≤ 140737488355328) = True := eq_true (by omega)
 have q2 : (decide (k = 3) || l.isEmpty) = true := by rcases hk with rfl | rfl <;> simp
 refine VC_keep T_ok (f := 29) (fn := Tryd.f29) (by kernel_rfl) rfl Tryd.ntmps29 (by rfl) (by rfl) ?_
 ((repeat refine Ws ?_);refine Wr ?_)
 simp (maxSteps := 1000000) only [VL,VM,↓VG,reduceIte,reduceCtorEq,zA,zB,zC,zD,zE,zF,zG,zH,zI,zJ]
 (repeat refine Ws ?_)
 refine W_niltest (k := k) (xs := l) (et := 37) Tryd.underlying34 rfl (by decide) (by decide) ?_
 intro b hb
 simp only [thenQ]
 cases b
 ·((repeat refine Ws ?_);refine Wf (by first|rfl|simp only [EV,zF,reduceIte]) ?_)
  ((repeat refine Ws ?_);refine W_skip ?_)
  simp (maxSteps := 1000000) only [VL,VM,↓VG,reduceIte,reduceCtorEq,zA,zB,zC,zD,zE,zF,zG,zH,zI,zJ]
  ((repeat refine Ws ?_);refine Wr ?_)
  simp (maxSteps := 1000000) only [VL,VM,↓VG,reduceIte,reduceCtorEq,zA,zB,zC,zD,zE,zF,zG,zH,zI,zJ, q1, q2]
  (repeat refine Ws ?_)
  exact W_ret ⟨.inr rfl, rfl, [.so M.H.length 3 l], rfl, rfl, rfl⟩
 ·have := hb rfl
  subst this
  ((repeat refine Ws ?_);refine Wt (by first|rfl|simp only [EV,zF,reduceIte]) ?_)
  ((repeat refine Ws ?_);refine Wr ?_)
  simp (maxSteps := 1000000) only [VL,VM,↓VG,reduceIte,reduceCtorEq,zA,zB,zC,zD,zE,zF,zG,zH,zI,zJ]
  refine W_tok (t := 2) (k := 3) rfl ?_
  (repeat refine Ws ?_)
  exact W_ret ⟨.inr rfl, rfl, [.so M.H.length 3 []], rfl, rfl, rfl⟩
end Go.Proofs.YtnjgdlmddlinaaaDoor.Vm
