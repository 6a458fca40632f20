/- A part of the proofs about the chapter of the vaults; it states no condition of its own. -/
import Derived.Test.YtnjgdlmddlinaaaDoorB20
import Derived.Test.YtnjgdlmddlinaaaDoorB21
import Derived.Test.YtnjgdlmddlinaaaDoorB23
set_option linter.unusedVariables false
set_option linter.unusedSimpArgs false
open Int renaming reduceLE → zA, reduceLT → zB, reduceToNat → zC, reduceNeg → zD
open Nat renaming reduceLT → zE, reduceEqDiff → zF, reduceAdd → zG, reduceSub → zH, reduceMul → zI, reduceLeDiff → zJ
/- Lists that are the same, on values. (Vm) -/
namespace Go.Proofs.YtnjgdlmddlinaaaDoor.Vm
open Go Go.Proofs
theorem take_same {α : Type} {xs ys : List α} {i : Nat} {x y : α} (hx : xs[i]? = some x) (hy : ys[i]? = some y) (h : xs.take i = ys.take i) : xs.take (i + 1) = ys.take (i + 1) ↔ x = y := by
 rw [List.take_add_one, List.take_add_one, hx, hy, h]
 simp
theorem sameCells_v (xs ys : List Pl) (M : Mem) (h1 : xs.length ≤ 1000000) (h2 : ys.length ≤ 1000000) : VC Tryd.prog 15 [plsV xs, plsV ys] M (fun r M' => M' = M ∧ r = vb (decide (xs = ys))) := by
 refine VC_own' T_ok (f := 15) (fn := Tryd.f15) (by kernel_rfl) rfl Tryd.ntmps15 (by rfl) (by rfl) ?_
 ((repeat refine Ws ?_);refine Wr ?_)
 simp (maxSteps := 1000000) only [VL,VM,↓VG,reduceIte,reduceCtorEq,zA,zB,zC,zD,zE,zF,zG,zH,zI,zJ]
 ((repeat refine Ws ?_);refine Wr ?_)
 simp (maxSteps := 1000000) only [VL,VM,↓VG,reduceIte,reduceCtorEq,zA,zB,zC,zD,zE,zF,zG,zH,zI,zJ]
 ((repeat refine Ws ?_);refine Wr ?_)
 simp (maxSteps := 1000000) only [VL,VM,↓VG,reduceIte,reduceCtorEq,zA,zB,zC,zD,zE,zF,zG,zH,zI,zJ]
 ((repeat refine Ws ?_);refine W_block ?_; (repeat refine Ws ?_)); refine W_loopS (fun s : Nat × Bool => [(0, plsV xs), (1, plsV ys), (5, vb s.2), (6, vi s.1)]) (fun _ => M) (fun s => xs.length - s.1) (fun s => s.1 ≤ xs.length ∧ s.2 = decide (xs.length = ys.length ∧ xs.take s.1 = ys.take s.1)) (0, decide ((xs.length : Int) = (ys.length : Int))) ⟨Nat.zero_le _, by simp only [List.take_zero, and_true]; rw [decide_eq_decide]; omega⟩ ⟨rfl, rfl, rfl, rfl, trivial⟩ rfl ?_
 rintro ⟨i, b⟩ ⟨hi, hb⟩
 simp only at hi hb
 have k1 : -9223372036854775808 ≤ (i : Int) + 1 ∧ (i : Int) + 1 < 9223372036854775808 := by omega
 cases b with
 | false =>
  have hne : decide (xs = ys) = false := by
   rw [decide_eq_false_iff_not]
   intro e
   have := of_decide_eq_false hb.symm
   exact this ⟨by rw [e], by rw [e]⟩
  ((repeat refine Ws ?_);refine Wr ?_)
  simp (maxSteps := 1000000) only [VL,VM,↓VG,reduceIte,reduceCtorEq,zA,zB,zC,zD,zE,zF,zG,zH,zI,zJ]
  ((repeat refine Ws ?_);refine Wf (by first|rfl|simp only [EV,zF,reduceIte]) ?_)
  ((repeat refine Ws ?_);refine W_exit ?_)
  simp (maxSteps := 1000000) only [VL,VM,↓VG,reduceIte,reduceCtorEq,zA,zB,zC,zD,zE,zF,zG,zH,zI,zJ]
  ((repeat refine Ws ?_);refine Wr ?_)
  simp (maxSteps := 1000000) only [VL,VM,↓VG,reduceIte,reduceCtorEq,zA,zB,zC,zD,zE,zF,zG,zH,zI,zJ]
  (repeat refine Ws ?_)
  refine W_ret ?_
  try simp only [thenQ, blockQ]
  refine own_ret10 rfl ?_ (by rfl)
  simp only [get_cons, frz, vtup, Nat.reduceEqDiff, if_true, if_false, reduceIte]
  rw [hne]
 | true =>
  obtain ⟨hl, ht⟩ := of_decide_eq_true hb.symm
  rcases Nat.lt_or_ge i xs.length with hlt | hge
  ·have k2 : ((i : Int) < (xs.length : Int)) = True := eq_true (by omega)
   have hx : xs[i]? = some xs[i] := List.getElem?_eq_getElem hlt
   have hy : ys[i]? = some (ys[i]'(by omega)) := List.getElem?_eq_getElem (by omega)
   have hx' := map_at (f := plP) hx
   have hy' := map_at (f := plP) hy
   have hs := take_same hx hy ht
   generalize xs[i] = x at hx hx' hs
   generalize ys[i]'(by omega) = y at hy hy' hs
   ((repeat refine Ws ?_);refine Wr ?_)
   simp (maxSteps := 1000000) only [VL,VM,↓VG,reduceIte,reduceCtorEq,zA,zB,zC,zD,zE,zF,zG,zH,zI,zJ, k2]
   ((repeat refine Ws ?_);refine Wt (by first|rfl|simp only [EV,zF,reduceIte]) ?_)
   ((repeat refine Ws ?_);refine W_skip ?_)
   simp (maxSteps := 1000000) only [VL,VM,↓VG,reduceIte,reduceCtorEq,zA,zB,zC,zD,zE,zF,zG,zH,zI,zJ]
   ((repeat refine Ws ?_);refine W_block ?_)
   (repeat refine Ws ?_)
   refine W_drawP T_ok [] (by kernel_rfl) (by kernel_rfl) ?_
   generalize hi : mkPlan _ = infs
   cbv at hi
   subst hi
   simp (maxSteps := 1000000) only [VL,VM,↓VG,reduceIte,reduceCtorEq,zA,zB,zC,zD,zE,zF,zG,zH,zI,zJ, hx', hy']
   ((repeat refine Ws ?_);refine Wr ?_)
   simp (maxSteps := 1000000) only [VL,VM,↓VG,reduceIte,reduceCtorEq,zA,zB,zC,zD,zE,zF,zG,zH,zI,zJ, k1]
   refine LoopK.mk (i + 1, decide (x = y)) (by simp; omega) ⟨by simp; omega, ?_⟩ ⟨rfl, rfl, rfl, rfl, trivial⟩ rfl
   simp only
   rw [decide_eq_decide, hs]
   exact ⟨fun h => ⟨hl, h⟩, fun h => h.2⟩
  ·have k2 : ((i : Int) < (xs.length : Int)) = False := eq_false (by omega)
   have he : decide (xs = ys) = true := by
    rw [decide_eq_true_eq]
    rw [List.take_of_length_le hge, List.take_of_length_le (by omega)] at ht
    exact ht
   ((repeat refine Ws ?_);refine Wr ?_)
   simp (maxSteps := 1000000) only [VL,VM,↓VG,reduceIte,reduceCtorEq,zA,zB,zC,zD,zE,zF,zG,zH,zI,zJ, k2]
   ((repeat refine Ws ?_);refine Wf (by first|rfl|simp only [EV,zF,reduceIte]) ?_)
   ((repeat refine Ws ?_);refine W_exit ?_)
   simp (maxSteps := 1000000) only [VL,VM,↓VG,reduceIte,reduceCtorEq,zA,zB,zC,zD,zE,zF,zG,zH,zI,zJ]
   ((repeat refine Ws ?_);refine Wr ?_)
   simp (maxSteps := 1000000) only [VL,VM,↓VG,reduceIte,reduceCtorEq,zA,zB,zC,zD,zE,zF,zG,zH,zI,zJ]
   (repeat refine Ws ?_)
   refine W_ret ?_
   try simp only [thenQ, blockQ]
   refine own_ret10 rfl ?_ (by rfl)
   simp only [get_cons, frz, vtup, Nat.reduceEqDiff, if_true, if_false, reduceIte]
   rw [he]
theorem sameSpans_v (xs ys : List Sp) (M : Mem) (h1 : xs.length ≤ 1000000) (h2 : ys.length ≤ 1000000) : VC Tryd.prog 19 [spsV xs, spsV ys] M (fun r M' => M' = M ∧ r = vb (decide (xs = ys))) := by
 refine VC_own' T_ok (f := 19) (fn := Tryd.f19) (by kernel_rfl) rfl Tryd.ntmps19 (by rfl) (by rfl) ?_
 ((repeat refine Ws ?_);refine Wr ?_)
 simp (maxSteps := 1000000) only [VL,VM,↓VG,reduceIte,reduceCtorEq,zA,zB,zC,zD,zE,zF,zG,zH,zI,zJ]
 ((repeat refine Ws ?_);refine Wr ?_)
 simp (maxSteps := 1000000) only [VL,VM,↓VG,reduceIte,reduceCtorEq,zA,zB,zC,zD,zE,zF,zG,zH,zI,zJ]
 ((repeat refine Ws ?_);refine Wr ?_)
 simp (maxSteps := 1000000) only [VL,VM,↓VG,reduceIte,reduceCtorEq,zA,zB,zC,zD,zE,zF,zG,zH,zI,zJ]
 ((repeat refine Ws ?_);refine W_block ?_; (repeat refine Ws ?_)); refine W_loopS (fun s : Nat × Bool => [(0, spsV xs), (1, spsV ys), (5, vb s.2), (6, vi s.1)]) (fun _ => M) (fun s => xs.length - s.1) (fun s => s.1 ≤ xs.length ∧ s.2 = decide (xs.length = ys.length ∧ xs.take s.1 = ys.take s.1)) (0, decide ((xs.length : Int) = (ys.length : Int))) ⟨Nat.zero_le _, by simp only [List.take_zero, and_true]; rw [decide_eq_decide]; omega⟩ ⟨rfl, rfl, rfl, rfl, trivial⟩ rfl ?_
 rintro ⟨i, b⟩ ⟨hi, hb⟩
 simp only at hi hb
 have k1 : -9223372036854775808 ≤ (i : Int) + 1 ∧ (i : Int) + 1 < 9223372036854775808 := by omega
 cases b with
 | false =>
  have hne : decide (xs = ys) = false := by
   rw [decide_eq_false_iff_not]
   intro e
   have := of_decide_eq_false hb.symm
   exact this ⟨by rw [e], by rw [e]⟩
  ((repeat refine Ws ?_);refine Wr ?_)
  simp (maxSteps := 1000000) only [VL,VM,↓VG,reduceIte,reduceCtorEq,zA,zB,zC,zD,zE,zF,zG,zH,zI,zJ]
  ((repeat refine Ws ?_);refine Wf (by first|rfl|simp only [EV,zF,reduceIte]) ?_)
  ((repeat refine Ws ?_);refine W_exit ?_)
  simp (maxSteps := 1000000) only [VL,VM,↓VG,reduceIte,reduceCtorEq,zA,zB,zC,zD,zE,zF,zG,zH,zI,zJ]
  ((repeat refine Ws ?_);refine Wr ?_)
  simp (maxSteps := 1000000) only [VL,VM,↓VG,reduceIte,reduceCtorEq,zA,zB,zC,zD,zE,zF,zG,zH,zI,zJ]
  (repeat refine Ws ?_)
  refine W_ret ?_
  try simp only [thenQ, blockQ]
  refine own_ret10 rfl ?_ (by rfl)
  simp only [get_cons, frz, vtup, Nat.reduceEqDiff, if_true, if_false, reduceIte]
  rw [hne]
 | true =>
  obtain ⟨hl, ht⟩ := of_decide_eq_true hb.symm
  rcases Nat.lt_or_ge i xs.length with hlt | hge
  ·have k2 : ((i : Int) < (xs.length : Int)) = True := eq_true (by omega)
   have hx : xs[i]? = some xs[i] := List.getElem?_eq_getElem hlt
   have hy : ys[i]? = some (ys[i]'(by omega)) := List.getElem?_eq_getElem (by omega)
   have hx' := map_at (f := spP) hx
   have hy' := map_at (f := spP) hy
   have hs := take_same hx hy ht
   generalize xs[i] = x at hx hx' hs
   generalize ys[i]'(by omega) = y at hy hy' hs
   ((repeat refine Ws ?_);refine Wr ?_)
   simp (maxSteps := 1000000) only [VL,VM,↓VG,reduceIte,reduceCtorEq,zA,zB,zC,zD,zE,zF,zG,zH,zI,zJ, k2]
   ((repeat refine Ws ?_);refine Wt (by first|rfl|simp only [EV,zF,reduceIte]) ?_)
   ((repeat refine Ws ?_);refine W_skip ?_)
   simp (maxSteps := 1000000) only [VL,VM,↓VG,reduceIte,reduceCtorEq,zA,zB,zC,zD,zE,zF,zG,zH,zI,zJ]
   ((repeat refine Ws ?_);refine W_block ?_)
   (repeat refine Ws ?_)
   refine W_drawP T_ok [] (by kernel_rfl) (by kernel_rfl) ?_
   generalize hi : mkPlan _ = infs
   cbv at hi
   subst hi
   simp (maxSteps := 1000000) only [VL,VM,↓VG,reduceIte,reduceCtorEq,zA,zB,zC,zD,zE,zF,zG,zH,zI,zJ, hx', hy', v_eqSpan]
   ((repeat refine Ws ?_);refine Wr ?_)
   simp (maxSteps := 1000000) only [VL,VM,↓VG,reduceIte,reduceCtorEq,zA,zB,zC,zD,zE,zF,zG,zH,zI,zJ, k1]
   refine LoopK.mk (i + 1, decide (x = y)) (by simp; omega) ⟨by simp; omega, ?_⟩ ⟨rfl, rfl, rfl, rfl, trivial⟩ rfl
   simp only
   rw [decide_eq_decide, hs]
   exact ⟨fun h => ⟨hl, h⟩, fun h => h.2⟩
  ·have k2 : ((i : Int) < (xs.length : Int)) = False := eq_false (by omega)
   have he : decide (xs = ys) = true := by
    rw [decide_eq_true_eq]
    rw [List.take_of_length_le hge, List.take_of_length_le (by omega)] at ht
    exact ht
   ((repeat refine Ws ?_);refine Wr ?_)
   simp (maxSteps := 1000000) only [VL,VM,↓VG,reduceIte,reduceCtorEq,zA,zB,zC,zD,zE,zF,zG,zH,zI,zJ, k2]
   ((repeat refine Ws ?_);refine Wf (by first|rfl|simp only [EV,zF,reduceIte]) ?_)
   ((repeat refine Ws ?_);refine W_exit ?_)
   simp (maxSteps := 1000000) only [VL,VM,↓VG,reduceIte,reduceCtorEq,zA,zB,zC,zD,zE,zF,zG,zH,zI,zJ]
   ((repeat refine Ws ?_);refine Wr ?_)
   simp (maxSteps := 1000000) only [VL,VM,↓VG,reduceIte,reduceCtorEq,zA,zB,zC,zD,zE,zF,zG,zH,zI,zJ]
   (repeat refine Ws ?_)
   refine W_ret ?_
   try simp only [thenQ, blockQ]
   refine own_ret10 rfl ?_ (by rfl)
   simp only [get_cons, frz, vtup, Nat.reduceEqDiff, if_true, if_false, reduceIte]
   rw [he]
theorem sameLayouts_v (xs ys : List Pu) (M : Mem) (h1 : xs.length ≤ 1000000) (h2 : ys.length ≤ 1000000) : VC Tryd.prog 16 [pusV xs, pusV ys] M (fun r M' => M' = M ∧ r = vb (decide (xs = ys))) := by
 refine VC_own' T_ok (f := 16) (fn := Tryd.f16) (by kernel_rfl) rfl Tryd.ntmps16 (by rfl) (by rfl) ?_
 ((repeat refine Ws ?_);refine Wr ?_)
 simp (maxSteps := 1000000) only [VL,VM,↓VG,reduceIte,reduceCtorEq,zA,zB,zC,zD,zE,zF,zG,zH,zI,zJ]
 ((repeat refine Ws ?_);refine Wr ?_)
 simp (maxSteps := 1000000) only [VL,VM,↓VG,reduceIte,reduceCtorEq,zA,zB,zC,zD,zE,zF,zG,zH,zI,zJ]
 ((repeat refine Ws ?_);refine Wr ?_)
 simp (maxSteps := 1000000) only [VL,VM,↓VG,reduceIte,reduceCtorEq,zA,zB,zC,zD,zE,zF,zG,zH,zI,zJ]
 ((repeat refine Ws ?_);refine W_block ?_; (repeat refine Ws ?_)); refine W_loopS (fun s : Nat × Bool => [(0, pusV xs), (1, pusV ys), (5, vb s.2), (6, vi s.1)]) (fun _ => M) (fun s => xs.length - s.1) (fun s => s.1 ≤ xs.length ∧ s.2 = decide (xs.length = ys.length ∧ xs.take s.1 = ys.take s.1)) (0, decide ((xs.length : Int) = (ys.length : Int))) ⟨Nat.zero_le _, by simp only [List.take_zero, and_true]; rw [decide_eq_decide]; omega⟩ ⟨rfl, rfl, rfl, rfl, trivial⟩ rfl ?_
 rintro ⟨i, b⟩ ⟨hi, hb⟩
 simp only at hi hb
 have k1 : -9223372036854775808 ≤ (i : Int) + 1 ∧ (i : Int) + 1 < 9223372036854775808 := by omega
 cases b with
 | false =>
  have hne : decide (xs = ys) = false := by
   rw [decide_eq_false_iff_not]
   intro e
   have := of_decide_eq_false hb.symm
   exact this ⟨by rw [e], by rw [e]⟩
  ((repeat refine Ws ?_);refine Wr ?_)
  simp (maxSteps := 1000000) only [VL,VM,↓VG,reduceIte,reduceCtorEq,zA,zB,zC,zD,zE,zF,zG,zH,zI,zJ]
  ((repeat refine Ws ?_);refine Wf (by first|rfl|simp only [EV,zF,reduceIte]) ?_)
  ((repeat refine Ws ?_);refine W_exit ?_)
  simp (maxSteps := 1000000) only [VL,VM,↓VG,reduceIte,reduceCtorEq,zA,zB,zC,zD,zE,zF,zG,zH,zI,zJ]
  ((repeat refine Ws ?_);refine Wr ?_)
  simp (maxSteps := 1000000) only [VL,VM,↓VG,reduceIte,reduceCtorEq,zA,zB,zC,zD,zE,zF,zG,zH,zI,zJ]
  (repeat refine Ws ?_)
  refine W_ret ?_
  try simp only [thenQ, blockQ]
  refine own_ret10 rfl ?_ (by rfl)
  simp only [get_cons, frz, vtup, Nat.reduceEqDiff, if_true, if_false, reduceIte]
  rw [hne]
 | true =>
  obtain ⟨hl, ht⟩ := of_decide_eq_true hb.symm
  rcases Nat.lt_or_ge i xs.length with hlt | hge
  ·have k2 : ((i : Int) < (xs.length : Int)) = True := eq_true (by omega)
   have hx : xs[i]? = some xs[i] := List.getElem?_eq_getElem hlt
   have hy : ys[i]? = some (ys[i]'(by omega)) := List.getElem?_eq_getElem (by omega)
   have hx' := map_at (f := puP) hx
   have hy' := map_at (f := puP) hy
   have hs := take_same hx hy ht
   generalize xs[i] = x at hx hx' hs
   generalize ys[i]'(by omega) = y at hy hy' hs
   ((repeat refine Ws ?_);refine Wr ?_)
   simp (maxSteps := 1000000) only [VL,VM,↓VG,reduceIte,reduceCtorEq,zA,zB,zC,zD,zE,zF,zG,zH,zI,zJ, k2]
   ((repeat refine Ws ?_);refine Wt (by first|rfl|simp only [EV,zF,reduceIte]) ?_)
   ((repeat refine Ws ?_);refine W_skip ?_)
   simp (maxSteps := 1000000) only [VL,VM,↓VG,reduceIte,reduceCtorEq,zA,zB,zC,zD,zE,zF,zG,zH,zI,zJ]
   ((repeat refine Ws ?_);refine W_block ?_)
   (repeat refine Ws ?_)
   refine W_drawP T_ok [] (by kernel_rfl) (by kernel_rfl) ?_
   generalize hi : mkPlan _ = infs
   cbv at hi
   subst hi
   simp (maxSteps := 1000000) only [VL,VM,↓VG,reduceIte,reduceCtorEq,zA,zB,zC,zD,zE,zF,zG,zH,zI,zJ, hx', hy']
   ((repeat refine Ws ?_);refine Wr ?_)
   simp (maxSteps := 1000000) only [VL,VM,↓VG,reduceIte,reduceCtorEq,zA,zB,zC,zD,zE,zF,zG,zH,zI,zJ, k1]
   refine LoopK.mk (i + 1, decide (x = y)) (by simp; omega) ⟨by simp; omega, ?_⟩ ⟨rfl, rfl, rfl, rfl, trivial⟩ rfl
   simp only
   rw [decide_eq_decide, hs]
   exact ⟨fun h => ⟨hl, h⟩, fun h => h.2⟩
  ·have k2 : ((i : Int) < (xs.length : Int)) = False := eq_false (by omega)
   have he : decide (xs = ys) = true := by
    rw [decide_eq_true_eq]
    rw [List.take_of_length_le hge, List.take_of_length_le (by omega)] at ht
    exact ht
   ((repeat refine Ws ?_);refine Wr ?_)
   simp (maxSteps := 1000000) only [VL,VM,↓VG,reduceIte,reduceCtorEq,zA,zB,zC,zD,zE,zF,zG,zH,zI,zJ, k2]
   ((repeat refine Ws ?_);refine Wf (by first|rfl|simp only [EV,zF,reduceIte]) ?_)
   ((repeat refine Ws ?_);refine W_exit ?_)
   simp (maxSteps := 1000000) only [VL,VM,↓VG,reduceIte,reduceCtorEq,zA,zB,zC,zD,zE,zF,zG,zH,zI,zJ]
   ((repeat refine Ws ?_);refine Wr ?_)
   simp (maxSteps := 1000000) only [VL,VM,↓VG,reduceIte,reduceCtorEq,zA,zB,zC,zD,zE,zF,zG,zH,zI,zJ]
   (repeat refine Ws ?_)
   refine W_ret ?_
   try simp only [thenQ, blockQ]
   refine own_ret10 rfl ?_ (by rfl)
   simp only [get_cons, frz, vtup, Nat.reduceEqDiff, if_true, if_false, reduceIte]
   rw [he]
end Go.Proofs.YtnjgdlmddlinaaaDoor.Vm

/- Halls that are copied, compared, and looked at, on values. (Vm) -/
namespace Go.Proofs.YtnjgdlmddlinaaaDoor.Vm
open Go Go.Proofs
end Go.Proofs.YtnjgdlmddlinaaaDoor.Vm

/- Halls that are copied, on values. (Vm) -/
namespace Go.Proofs.YtnjgdlmddlinaaaDoor.Vm
open Go Go.Proofs
theorem addLg_X (id : Nat) (rs : List Nat) (lg : List (Nat × Nat)) : ∃ X, addLg id rs lg = lg ++ X ∧ ∀ e ∈ X, e.1 = id := by
 unfold addLg
 split
 ·exact ⟨[], by simp, by simp⟩
 ·refine ⟨_, rfl, fun e he => ?_⟩
  obtain ⟨r, _, rfl⟩ := List.mem_map.1 he
  rfl
end Go.Proofs.YtnjgdlmddlinaaaDoor.Vm

/- The best layout, on values. (Vm) -/
namespace Go.Proofs.YtnjgdlmddlinaaaDoor.Vm
open Go Go.Proofs
theorem filter_take1 {α : Type} (p : α → Bool) {l : List α} {i : Nat} {c : α} (h : l[i]? = some c) : (l.take (i + 1)).filter p = (l.take i).filter p ++ if p c then [c] else [] := by
 rw [List.take_add_one, h, List.filter_append]
 cases hp : p c <;> simp [hp]
def bestErr (h : Ha) : Int := if hallErr h ≠ 0 then hallErr h else if 8 < (openL h).length then 6 else 0
def bestR (h : Ha) : VV := if bestErr h = 0 then pusV (bestL h) else .p (.sl 0 [])
set_option maxRecDepth 100000 in
set_option maxHeartbeats 1000000 in
theorem best_vm (h : Ha) (M : Mem) (Fi : Fin h) : VC Tryd.prog 13 [hallV h] M (fun r M' => M' = M ∧ r = .tup [bestR h, vi (bestErr h)]) := by
 refine VC_ownK T_ok (f := 13) (fn := Tryd.f13) (by kernel_rfl) rfl Tryd.ntmps13 (by rfl) (by rfl) ?_
 ((repeat refine Ws ?_);refine Wr ?_)
 simp (maxSteps := 1000000) only [VL,VM,↓VG,reduceIte,reduceCtorEq,zA,zB,zC,zD,zE,zF,zG,zH,zI,zJ]
 ((repeat refine Ws ?_);refine Wr ?_)
 simp (maxSteps := 1000000) only [VL,VM,↓VG,reduceIte,reduceCtorEq,zA,zB,zC,zD,zE,zF,zG,zH,zI,zJ]
 apply call_eq (f := 6) (fn := Tryd.f6) (by kernel_rfl) (by rfl)
 ·exact check_vm h _ Fi
 simp (maxSteps := 1000000) only [VL,VM,↓VG,reduceIte,reduceCtorEq,zA,zB,zC,zD,zE,zF,zG,zH,zI,zJ]
 ((repeat refine Ws ?_);refine Wr ?_)
 by_cases e : hallErr h = 0
 rotate_left
 ·simp (maxSteps := 1000000) only [VL,VM,↓VG,reduceIte,reduceCtorEq,zA,zB,zC,zD,zE,zF,zG,zH,zI,zJ, e]
  ((repeat refine Ws ?_);refine Wt (by first|rfl|simp only [EV,zF,reduceIte]) ?_)
  ((repeat refine Ws ?_);refine Wr ?_)
  simp (maxSteps := 1000000) only [VL,VM,↓VG,reduceIte,reduceCtorEq,zA,zB,zC,zD,zE,zF,zG,zH,zI,zJ]
  (repeat refine Ws ?_)
  refine W_ret ?_
  try simp only [thenQ, blockQ]
  refine ownK_ret0 rfl ?_ ?_
  ·exact ⟨rfl, by simp [get_cons, frz, frzL, vtup, bestR, bestErr, e]⟩
  ·simp [get_cons, frz, frzL, vtup, refs, refsL]
 have V := VH.of e
 have hk6 := V.kinds6
 simp (maxSteps := 1000000) only [VL,VM,↓VG,reduceIte,reduceCtorEq,zA,zB,zC,zD,zE,zF,zG,zH,zI,zJ, e]
 ((repeat refine Ws ?_);refine Wf (by first|rfl|simp only [EV,zF,reduceIte]) ?_)
 ((repeat refine Ws ?_);refine W_skip ?_)
 simp (maxSteps := 1000000) only [VL,VM,↓VG,reduceIte,reduceCtorEq,zA,zB,zC,zD,zE,zF,zG,zH,zI,zJ]
 ((repeat refine Ws ?_);refine Wr ?_)
 simp (maxSteps := 1000000) only [VL,VM,↓VG,reduceIte,reduceCtorEq,zA,zB,zC,zD,zE,zF,zG,zH,zI,zJ]
 (repeat refine Ws ?_)
 refine W_ghost (id := M.H.length + 1) (off := 0) (k := 2) (k0 := 0) (cs := [.sf 0 []]) (by rw [hget]; rfl) rfl ?_
 ((repeat refine Ws ?_);refine Wr ?_)
 simp (maxSteps := 1000000) only [VL,VM,↓VG,reduceIte,reduceCtorEq,zA,zB,zC,zD,zE,zF,zG,zH,zI,zJ]
 apply call_eq (f := 28) (fn := Tryd.f28) (by kernel_rfl) (by rfl)
 ·exact placesF_v h _
 obtain ⟨wd, hwd⟩ := Int.eq_ofNat_of_zero_le (show 0 ≤ h.wide by have := V.w1; omega)
 obtain ⟨dp, hdp⟩ := Int.eq_ofNat_of_zero_le (show 0 ≤ h.deep by have := V.d1; omega)
 have w2 := V.w2
 have d2 := V.d2
 have w6 : wd ≤ 6 := by omega
 have d4 : dp ≤ 4 := by omega
 have hrows : placesL h = rowsOf dp wd := by rw [placesL, hwd, hdp]; rfl
 have hrl : (rowsOf dp wd).length ≤ 24 := by
  rw [rowsOf_len]
  have : dp * wd ≤ 4 * 6 := Nat.mul_le_mul d4 w6
  omega
 simp (maxSteps := 1000000) only [VL,VM,↓VG,reduceIte,reduceCtorEq,zA,zB,zC,zD,zE,zF,zG,zH,zI,zJ]
 refine W_block ?_
 refine W_places rfl rfl h hwd hdp (by omega) (by omega) [(1, VV.ptr M.H.length 0), (5, VV.ptr (M.H.length + 1) 0)] (fun s : List Pl => M.H ++ [.obj (hallC h), .obj [.so (M.H.length + 2) 2 (s.map plP)], .clm s.length 2, .obj (hallC h)]) (fun i s => s = ((rowsOf dp wd).take i).filter fun c => !hasPl h.shut c) [] rfl (fun s => by simp) (by simp) (fun s => by rw [hget]; rfl) (by rfl) ⟨rfl, rfl, trivial⟩ (by kernel_rfl) ?_ ?_
 ·intro o o' i c s junk hc hs
  dsimp only
  have hft := filter_take1 (fun c => !hasPl h.shut c) hc
  rw [← hs] at hft
  have hsl : s.length ≤ 24 := by
   have h1 := List.length_filter_le (fun c => !hasPl h.shut c) ((rowsOf dp wd).take i)
   rw [← hs, List.length_take] at h1
   omega
  have q2 : ((s.length + 1) * 16 ≤ 140737488355328) = True := eq_true (by omega)
  ((repeat refine Ws ?_);refine Wr ?_)
  simp (maxSteps := 1000000) only [VL,VM,↓VG,reduceIte,reduceCtorEq,zA,zB,zC,zD,zE,zF,zG,zH,zI,zJ]
  refine ⟨junk ++ [.obj [vi c.x, vi c.y]], by simp, ?_⟩
  ((repeat refine Ws ?_);refine W_block ?_)
  ((repeat refine Ws ?_);refine Wr ?_)
  simp (maxSteps := 1000000) only [VL,VM,↓VG,reduceIte,reduceCtorEq,zA,zB,zC,zD,zE,zF,zG,zH,zI,zJ]
  apply call_eq (f := 30) (fn := Tryd.f30) (by kernel_rfl) (by rfl)
  ·exact containscells_vm c h.shut _ (V.shut_len)
  simp (maxSteps := 1000000) only [VL,VM,↓VG,reduceIte,reduceCtorEq,zA,zB,zC,zD,zE,zF,zG,zH,zI,zJ]
  cases hsh : hasPl h.shut c
  rotate_left
  ·((repeat refine Ws ?_);refine Wf (by first|rfl|simp only [EV,zF,reduceIte]) ?_)
   ((repeat refine Ws ?_);refine W_skip ?_)
   simp only [blockQ]
   refine ⟨trivial, s, _, rfl, ?_⟩
   rw [hft, hsh]; simp
  ((repeat refine Ws ?_);refine Wt (by first|rfl|simp only [EV,zF,reduceIte]) ?_)
  ((repeat refine Ws ?_);refine Wr ?_)
  simp (maxSteps := 1000000) only [VL,VM,↓VG,reduceIte,reduceCtorEq,zA,zB,zC,zD,zE,zF,zG,zH,zI,zJ, q2]
  refine ⟨s ++ [c], junk ++ [.obj [vi c.x, vi c.y]], ?_, by rw [hft, hsh]; rfl⟩
  rw [addLg_has (by simp)]
  simp
 intro o s hs
 simp only [thenQ, blockQ]
 rw [List.take_of_length_le (by rw [rowsOf_len]; exact Nat.le_refl _), ← hrows] at hs
 replace hs : s = openL h := hs
 subst hs
 ((repeat refine Ws ?_);refine Wr ?_)
 by_cases hbig : 8 < (openL h).length
 ·have b1 : ((8 : Int) < ((openL h).length : Int)) = True := eq_true (by omega)
  simp (maxSteps := 1000000) only [VL,VM,↓VG,reduceIte,reduceCtorEq,zA,zB,zC,zD,zE,zF,zG,zH,zI,zJ, b1]
  ((repeat refine Ws ?_);refine Wt (by first|rfl|simp only [EV,zF,reduceIte]) ?_)
  ((repeat refine Ws ?_);refine Wr ?_)
  simp (maxSteps := 1000000) only [VL,VM,↓VG,reduceIte,reduceCtorEq,zA,zB,zC,zD,zE,zF,zG,zH,zI,zJ]
  (repeat refine Ws ?_)
  refine W_ret ?_
  try simp only [thenQ, blockQ]
  refine ownK_ret (L' := _) (X := [(M.H.length + 1, M.H.length + 2)]) (by simp) (vkill_one (j := 4) rfl) rfl ?_ ?_
  ·exact ⟨rfl, by simp [get_cons, frz, frzL, vtup, bestR, bestErr, e, hbig]⟩
  ·simp [get_cons, frz, frzL, vtup, refs, refsL]
 have b1 : ((8 : Int) < ((openL h).length : Int)) = False := eq_false (by omega)
 simp (maxSteps := 1000000) only [VL,VM,↓VG,reduceIte,reduceCtorEq,zA,zB,zC,zD,zE,zF,zG,zH,zI,zJ, b1]
 ((repeat refine Ws ?_);refine Wf (by first|rfl|simp only [EV,zF,reduceIte]) ?_)
 ((repeat refine Ws ?_);refine W_skip ?_)
 simp (maxSteps := 1000000) only [VL,VM,↓VG,reduceIte,reduceCtorEq,zA,zB,zC,zD,zE,zF,zG,zH,zI,zJ]
 ((repeat refine Ws ?_);refine Wr ?_)
 simp (maxSteps := 1000000) only [VL,VM,↓VG,reduceIte,reduceCtorEq,zA,zB,zC,zD,zE,zF,zG,zH,zI,zJ]
 ((repeat refine Ws ?_);refine Wr ?_)
 simp (maxSteps := 1000000) only [VL,VM,↓VG,reduceIte,reduceCtorEq,zA,zB,zC,zD,zE,zF,zG,zH,zI,zJ]
 have hkl : (h.kinds.take h.kinds.length) = h.kinds := List.take_length
 ((repeat refine Ws ?_);refine W_block ?_; (repeat refine Ws ?_)); refine W_loopS (fun s : Nat × List VObj => [(1, .ptr M.H.length 0), (5, .ptr (M.H.length + 1) 0), (7, .ptr (M.H.length + 6) 0), (34, kisV h.kinds), (35, vi h.kinds.length), (36, vi s.1)]) (fun s => ⟨M.H ++ (.obj (hallC h) :: .obj [.so (M.H.length + 2) 2 ((openL h).map plP)] :: .clm (openL h).length 2 :: .obj (hallC h) :: .dfr :: o :: .obj [vi ((h.kinds.take s.1).foldl (fun d k => max d k.rent) 0)] :: s.2), M.lg ++ [(M.H.length + 1, M.H.length + 2)]⟩) (fun s => h.kinds.length - s.1) (fun s => s.1 ≤ h.kinds.length) (0, []) (Nat.zero_le _) ⟨rfl, rfl, rfl, rfl, rfl, rfl, trivial⟩ rfl ?_
 rintro ⟨i, junk⟩ hi
 simp only at hi
 have k1 : -9223372036854775808 ≤ (i : Int) + 1 ∧ (i : Int) + 1 < 9223372036854775808 := by omega
 ((repeat refine Ws ?_);refine Wr ?_)
 rcases Nat.lt_or_ge i h.kinds.length with hlt | hge
 ·have k2 : ((i : Int) < (h.kinds.length : Int)) = True := eq_true (by omega)
  have hx := List.getElem?_eq_getElem hlt
  have hx' := map_at (f := kiP) hx
  have hfd : (h.kinds.take (i + 1)).foldl (fun d k => max d k.rent) 0 = max ((h.kinds.take i).foldl (fun d k => max d k.rent) 0) h.kinds[i].rent := by
   rw [List.take_add_one, hx, List.foldl_append]; rfl
  generalize h.kinds[i] = kd at hx hx' hfd
  generalize (h.kinds.take i).foldl (fun d k => max d k.rent) 0 = dd at hfd
  simp (maxSteps := 1000000) only [VL,VM,↓VG,reduceIte,reduceCtorEq,zA,zB,zC,zD,zE,zF,zG,zH,zI,zJ, k2]
  ((repeat refine Ws ?_);refine Wt (by first|rfl|simp only [EV,zF,reduceIte]) ?_)
  ((repeat refine Ws ?_);refine W_skip ?_)
  simp (maxSteps := 1000000) only [VL,VM,↓VG,reduceIte,reduceCtorEq,zA,zB,zC,zD,zE,zF,zG,zH,zI,zJ]
  ((repeat refine Ws ?_);refine W_block ?_)
  ((repeat refine Ws ?_);refine Wr ?_)
  simp (maxSteps := 1000000) only [VL,VM,↓VG,reduceIte,reduceCtorEq,zA,zB,zC,zD,zE,zF,zG,zH,zI,zJ, hx']
  ((repeat refine Ws ?_);refine Wr ?_)
  simp (maxSteps := 1000000) only [VL,VM,↓VG,reduceIte,reduceCtorEq,zA,zB,zC,zD,zE,zF,zG,zH,zI,zJ]
  ((repeat refine Ws ?_);refine Wr ?_)
  simp (maxSteps := 1000000) only [VL,VM,↓VG,reduceIte,reduceCtorEq,zA,zB,zC,zD,zE,zF,zG,zH,zI,zJ, k1]
  refine LoopK.mk (i + 1, junk ++ [.obj [vi kd.lo, vi kd.hi, vb kd.water, intsV kd.away, vi kd.rent, vi kd.most]]) (by simp only; omega) (by simp only; omega) ⟨rfl, rfl, rfl, rfl, rfl, rfl, trivial⟩ (by simp only [hfd])
 have k2 : ((i : Int) < (h.kinds.length : Int)) = False := eq_false (by omega)
 obtain rfl : i = h.kinds.length := by omega
 rw [hkl, show h.kinds.foldl (fun d k => max d k.rent) 0 = dearL h from rfl]
 simp (maxSteps := 1000000) only [VL,VM,↓VG,reduceIte,reduceCtorEq,zA,zB,zC,zD,zE,zF,zG,zH,zI,zJ, k2]
 ((repeat refine Ws ?_);refine Wf (by first|rfl|simp only [EV,zF,reduceIte]) ?_)
 ((repeat refine Ws ?_);refine W_exit ?_)
 simp (maxSteps := 1000000) only [VL,VM,↓VG,reduceIte,reduceCtorEq,zA,zB,zC,zD,zE,zF,zG,zH,zI,zJ]
 obtain ⟨P, hP⟩ : ∃ P, P = M.H ++ (.obj (hallC h) :: .obj [.so (M.H.length + 2) 2 ((openL h).map plP)] :: .clm (openL h).length 2 :: .obj (hallC h) :: .dfr :: o :: .obj [vi (dearL h)] :: junk) := ⟨_, rfl⟩
 rw [← hP]
 ((repeat refine Ws ?_);refine Wr ?_)
 simp (maxSteps := 1000000) only [VL,VM,↓VG,reduceIte,reduceCtorEq,zA,zB,zC,zD,zE,zF,zG,zH,zI,zJ]
 (repeat refine Ws ?_)
 refine W_nilobj (id := P.length) (off := 0) (k := 3) (k0 := 0) (cs := [.sf 0 []]) (by rw [hget0]; rfl) rfl ?_
 ((repeat refine Ws ?_);refine Wr ?_)
 simp (maxSteps := 1000000) only [VL,VM,↓VG,reduceIte,reduceCtorEq,zA,zB,zC,zD,zE,zF,zG,zH,zI,zJ]
 ((repeat refine Ws ?_);refine Wr ?_)
 simp (maxSteps := 1000000) only [VL,VM,↓VG,reduceIte,reduceCtorEq,zA,zB,zC,zD,zE,zF,zG,zH,zI,zJ]
 ((repeat refine Ws ?_);refine Wr ?_)
 simp (maxSteps := 1000000) only [VL,VM,↓VG,reduceIte,reduceCtorEq,zA,zB,zC,zD,zE,zF,zG,zH,zI,zJ]
 obtain ⟨Xl, hXl, hX1⟩ := addLg_X (P.length + 2) [M.H.length, P.length + 1, P.length, M.H.length + 6, M.H.length + 1, P.length + 2] (M.lg ++ [(M.H.length + 1, M.H.length + 2)])
 rw [hXl]
 have hPl : M.H.length ≤ P.length := by rw [hP]; simp
 have gP : ∀ (L : List VObj) (j : Nat) (ob : VObj), (VObj.obj (hallC h) :: .obj [.so (M.H.length + 2) 2 ((openL h).map plP)] :: .clm (openL h).length 2 :: .obj (hallC h) :: .dfr :: o :: .obj [vi (dearL h)] :: junk)[j]? = some ob → (P ++ L)[M.H.length + j]? = some ob := fun L j ob hj => by
  refine app_get ?_ L
  rw [hP, hget]; exact hj
 have F : Fr h (M.H.length + 2) M.H.length (P.length + 1) P.length (M.H.length + 6) (M.H.length + 1) (P.length + 2) (P.length + 3) (fun b m => P ++ [.obj [pusV b], .obj [vi m], .obj [tryV M.H.length (P.length + 1) P.length (M.H.length + 6) (M.H.length + 1) (P.length + 2)]]) := by
  refine ⟨fun b m => by simp, fun b m L => ?_, fun b m L => ?_, fun b m L => ?_, fun b m L => ?_, fun b m L => ?_, fun b m L => ?_, fun b m L x => ?_, fun b m L x => ?_⟩
  ·rw [List.append_assoc]; exact gP _ 0 _ rfl
  ·rw [List.append_assoc, hget]; rfl
  ·rw [List.append_assoc, hget0]; rfl
  ·rw [List.append_assoc]; exact gP _ 6 _ rfl
  ·rw [List.append_assoc]; exact gP _ 1 _ rfl
  ·rw [List.append_assoc, hget]; rfl
  ·rw [List.append_assoc, hset]; simp
  ·rw [List.append_assoc, hset0]; simp
 have htv := try_vm h V (by omega) (M.H.length + 2) M.H.length (P.length + 1) P.length (M.H.length + 6) (M.H.length + 1) (P.length + 2) (openL h) _ _ F [] (List.replicate 24 0) [] 0 (M.lg ++ (M.H.length + 1, M.H.length + 2) :: Xl) 0 rfl (Nat.zero_le _) (FlOk.zero h _) (allowedB_nil V)
 ((repeat refine Ws ?_);refine Wr ?_)
 simp (maxSteps := 1000000) only [VL,VM,↓VG,reduceIte,reduceCtorEq,zA,zB,zC,zD,zE,zF,zG,zH,zI,zJ]
 refine call_c (f := 31) (fn := Tryd.f31) (M1 := ⟨P ++ [.obj [pusV (bestL h)], .obj [vi (bestS h).2], .obj [tryV M.H.length (P.length + 1) P.length (M.H.length + 6) (M.H.length + 1) (P.length + 2)]], M.lg ++ (M.H.length + 1, M.H.length + 2) :: Xl⟩) (v := .tup []) (by kernel_rfl) (by rfl) ?_ ?_
 ·exact htv
 refine ⟨by decide, ?_⟩
 try simp only [thenQ, blockQ]
 ((repeat refine Ws ?_);refine Wr ?_)
 simp (maxSteps := 1000000) only [VL,VM,↓VG,reduceIte,reduceCtorEq,zA,zB,zC,zD,zE,zF,zG,zH,zI,zJ]
 rw [hP]
 simp only [List.append_assoc, List.cons_append]
 (repeat refine Ws ?_)
 refine W_ret ?_
 try simp only [thenQ, blockQ]
 refine ownK_ret (L' := _) (X := (M.H.length + 1, M.H.length + 2) :: Xl) ?_ (vkill_one (j := 4) rfl) rfl ?_ ?_
 ·intro x hx
  rcases List.mem_cons.1 hx with rfl | hx
  ·simp
  ·rw [hX1 x hx]; omega
 ·exact ⟨rfl, by simp [get_cons, frz, frzL, vtup, bestR, bestErr, e, hbig]⟩
 ·simp [get_cons, frz, frzL, vtup, refs, refsL]
end Go.Proofs.YtnjgdlmddlinaaaDoor.Vm

/- The reference's loads, verdicts and what is allowed, on values. (Vm) -/
namespace Go.Proofs.YtnjgdlmddlinaaaDoor.Vm
open Go Go.Proofs
end Go.Proofs.YtnjgdlmddlinaaaDoor.Vm
