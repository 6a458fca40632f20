/- A part of the proofs about the chapter of the doors; it states no condition of its own. -/
import Derived.Test.YtmagiabapakhcaaB27
import Derived.Test.YtmagiabapakhcaaB28
set_option linter.unusedVariables false
set_option linter.unusedSimpArgs false
open Int renaming reduceLE → zA, reduceLT → zB, reduceToNat → zC, reduceNeg → zD
open Nat renaming reduceLT → zE, reduceEqDiff → zF, reduceAdd → zG, reduceSub → zH, reduceMul → zI, reduceLeDiff → zJ
/- Lists are compared, on values. (Vm) -/
namespace Go.Proofs.Ytmagiabapakhcaa.Vm
open Go Go.Proofs
theorem VC_nil0 {P : Program} {f k k0 : Nat} {us vs : List VV} {M : Mem} {Q : VV → Mem → Prop} (h : VC P f (us ++ .p (.sl k []) :: vs) M Q) : VC P f (us ++ .p (.sl k0 []) :: vs) M Q := by
 intro G w K rargs hI ha
 refine h G w K rargs hI ?_
 obtain ⟨hr, hc⟩ := ha
 refine ⟨⟨by have := hr.1; simpa using this, fun i a b hx hy => ?_⟩, fun a hm => ?_⟩
 ·rcases Nat.lt_trichotomy i us.length with hlt | heq | hgt
  ·exact hr.2 i a b hx (by rw [List.getElem?_append_left hlt] at hy ⊢; exact hy)
  ·subst heq
   rw [List.getElem?_append_right (Nat.le_refl _), Nat.sub_self] at hy
   cases hy
   have hy' : (us ++ VV.p (.sl k0 []) :: vs)[us.length]? = some (.p (.sl k0 [])) := by
    rw [List.getElem?_append_right (Nat.le_refl _), Nat.sub_self]; rfl
   have := hr.2 _ a _ hx hy'
   cases this with
   | p _ _ hp =>
   cases hp with
   | sl A c _ b off _ g q1 q2 q3 q4 q5 q6 q7 => exact .p _ _ (.sl A c k b off [] g q1 q2 (fun x hx => by cases hx) q4 (fun i x j u hx => by simp at hx) (fun i x j u hx => by simp at hx) (fun i x j u hx => by simp at hx))
  ·exact hr.2 i a b hx (by
    rw [List.getElem?_append_right (by omega)] at hy ⊢
    rw [show i - us.length = (i - us.length - 1) + 1 by omega] at hy ⊢
    exact hy)
 ·rcases List.mem_append.1 hm with hm | hm
  ·exact hc a (List.mem_append_left _ hm)
  ·rcases List.mem_cons.1 hm with rfl | hm
   ·intro r hr'
    simp [refs] at hr'
   ·exact hc a (List.mem_append_right _ (List.mem_cons_of_mem _ hm))
def eqTo {α : Type} [DecidableEq α] (a b : List α) (i : Nat) : Bool := decide (a.length = b.length) && decide (a.take i = b.take i)
theorem eqTo_zero {α : Type} [DecidableEq α] (a b : List α) : eqTo a b 0 = decide (a.length = b.length) := by simp [eqTo]
theorem eqTo_succ {α : Type} [DecidableEq α] {a b : List α} {i : Nat} {x y : α} (hx : a[i]? = some x) (hy : b[i]? = some y) (h : eqTo a b i = true) : eqTo a b (i + 1) = decide (x = y) := by
 unfold eqTo at *
 simp only [Bool.and_eq_true, decide_eq_true_eq] at h
 rw [decide_eq_true h.1, Bool.true_and, List.take_add_one, List.take_add_one, hx, hy, h.2]
 simp
theorem eqTo_end {α : Type} [DecidableEq α] {a b : List α} : eqTo a b a.length = decide (a = b) := by
 unfold eqTo
 by_cases h : a.length = b.length
 ·rw [decide_eq_true h, Bool.true_and, List.take_length, h, List.take_length]
 ·rw [decide_eq_false h, Bool.false_and]
  symm
  rw [decide_eq_false_iff_not]
  intro e; exact h (by rw [e])
theorem eqTo_no {α : Type} [DecidableEq α] {a b : List α} {i : Nat} (h : eqTo a b i = false) : decide (a = b) = false := by
 rw [decide_eq_false_iff_not]
 intro e
 subst e
 simp [eqTo] at h
theorem sameInts_v (a b : List (Int)) (M : Mem) (ha : a.length ≤ 1000000) : VC Try.prog 34 [intsV a, intsV b] M (fun r M' => M' = M ∧ r = vb (decide (a = b))) := by
 refine VC_own' T_ok (f := 34) (fn := Try.f34) (by kernel_rfl) rfl Try.ntmps34 (by rfl) (by rfl) ?_
 ((repeat refine Ws ?_);refine Wr ?_)
 simp (maxSteps := 1000000) only [VL,VM,↓VG,reduceIte,reduceCtorEq,zA,zB,zC,zD,zE,zF,zG,zH,zI,zJ]
 ((repeat refine Ws ?_);refine Wr ?_)
 have h0 : decide ((a.length : Int) = (b.length : Int)) = eqTo a b 0 := by rw [eqTo_zero]; by_cases e : a.length = b.length <;> simp [e] <;> omega
 simp (maxSteps := 1000000) only [VL,VM,↓VG,reduceIte,reduceCtorEq,zA,zB,zC,zD,zE,zF,zG,zH,zI,zJ, h0]
 ((repeat refine Ws ?_);refine Wr ?_)
 simp (maxSteps := 1000000) only [VL,VM,↓VG,reduceIte,reduceCtorEq,zA,zB,zC,zD,zE,zF,zG,zH,zI,zJ]
 ((repeat refine Ws ?_);refine W_block ?_; (repeat refine Ws ?_)); refine W_loopS (fun i : Nat => [(0, intsV a), (1, intsV b), (5, vb (eqTo a b i)), (6, vi i)]) (fun _ => M) (fun i => a.length - i) (fun i => i ≤ a.length) 0 (Nat.zero_le _) ⟨rfl, rfl, rfl, rfl, trivial⟩ rfl ?_
 intro i hi
 have k1 : -9223372036854775808 ≤ (i : Int) + 1 ∧ (i : Int) + 1 < 9223372036854775808 := by omega
 ((repeat refine Ws ?_);refine Wr ?_)
 cases he : eqTo a b i
 ·simp (maxSteps := 1000000) only [VL,VM,↓VG,reduceIte,reduceCtorEq,zA,zB,zC,zD,zE,zF,zG,zH,zI,zJ]
  ((repeat refine Ws ?_);refine Wf (by first|rfl|simp only [EV,zF,reduceIte]) ?_)
  ((repeat refine Ws ?_);refine W_exit ?_)
  simp (maxSteps := 1000000) only [VL,VM,↓VG,reduceIte,reduceCtorEq,zA,zB,zC,zD,zE,zF,zG,zH,zI,zJ]
  ((repeat refine Ws ?_);refine Wr ?_)
  simp (maxSteps := 1000000) only [VL,VM,↓VG,reduceIte,reduceCtorEq,zA,zB,zC,zD,zE,zF,zG,zH,zI,zJ]
  (repeat refine Ws ?_)
  refine W_ret ?_
  try simp only [thenQ, blockQ]
  refine own_ret10 rfl ?_ (by rfl)
  simp only [get_cons, frz, vtup, Nat.reduceEqDiff, if_true, if_false, reduceIte]
  rw [eqTo_no he]
 rcases Nat.lt_or_ge i a.length with hlt | hge
 ·have k2 : ((i : Int) < (a.length : Int)) = True := eq_true (by omega)
  have hl : a.length = b.length := by
   unfold eqTo at he
   simp only [Bool.and_eq_true, decide_eq_true_eq] at he
   exact he.1
  have hx : a[i]? = some a[i] := List.getElem?_eq_getElem hlt
  have hy : b[i]? = some (b[i]'(by omega)) := List.getElem?_eq_getElem (by omega)
  have hmx := List.getElem_mem hlt
  generalize a[i] = x at hx hmx
  generalize b[i]'(by omega) = y at hy
  have hx' := map_at (f := intP) hx
  have hy' := map_at (f := intP) hy
  have hs := eqTo_succ hx hy he
  simp (maxSteps := 1000000) only [VL,VM,↓VG,reduceIte,reduceCtorEq,zA,zB,zC,zD,zE,zF,zG,zH,zI,zJ, k2]
  ((repeat refine Ws ?_);refine Wt (by first|rfl|simp only [EV,zF,reduceIte]) ?_)
  ((repeat refine Ws ?_);refine W_skip ?_)
  simp (maxSteps := 1000000) only [VL,VM,↓VG,reduceIte,reduceCtorEq,zA,zB,zC,zD,zE,zF,zG,zH,zI,zJ]
  ((repeat refine Ws ?_);refine W_block ?_)
  (repeat refine Ws ?_)
  refine W_drawP T_ok [] (by kernel_rfl) (by kernel_rfl) ?_
  generalize hi : mkPlan _ = infs
  cbv at hi
  subst hi
  simp (maxSteps := 1000000) only [VL,VM,↓VG,reduceIte,reduceCtorEq,zA,zB,zC,zD,zE,zF,zG,zH,zI,zJ, hx', hy']
  ((repeat refine Ws ?_);refine Wr ?_)
  simp (maxSteps := 1000000) only [VL,VM,↓VG,reduceIte,reduceCtorEq,zA,zB,zC,zD,zE,zF,zG,zH,zI,zJ, k1]
  refine LoopK.mk (i + 1) (by omega) (by omega) ⟨rfl, rfl, ?_, rfl, trivial⟩ rfl
  rw [hs]; rfl
 have k2 : ((i : Int) < (a.length : Int)) = False := eq_false (by omega)
 simp (maxSteps := 1000000) only [VL,VM,↓VG,reduceIte,reduceCtorEq,zA,zB,zC,zD,zE,zF,zG,zH,zI,zJ, k2]
 ((repeat refine Ws ?_);refine Wf (by first|rfl|simp only [EV,zF,reduceIte]) ?_)
 ((repeat refine Ws ?_);refine W_exit ?_)
 simp (maxSteps := 1000000) only [VL,VM,↓VG,reduceIte,reduceCtorEq,zA,zB,zC,zD,zE,zF,zG,zH,zI,zJ]
 ((repeat refine Ws ?_);refine Wr ?_)
 simp (maxSteps := 1000000) only [VL,VM,↓VG,reduceIte,reduceCtorEq,zA,zB,zC,zD,zE,zF,zG,zH,zI,zJ]
 (repeat refine Ws ?_)
 refine W_ret ?_
 try simp only [thenQ, blockQ]
 refine own_ret10 rfl ?_ (by rfl)
 simp only [get_cons, frz, vtup, Nat.reduceEqDiff, if_true, if_false, reduceIte]
 have hi3 : i = a.length := by omega
 subst hi3
 rw [← eqTo_end, he]
theorem sameSpans_v (a b : List (Sp)) (M : Mem) (ha : a.length ≤ 1000000) : VC Try.prog 26 [spsV a, spsV b] M (fun r M' => M' = M ∧ r = vb (decide (a = b))) := by
 refine VC_own' T_ok (f := 26) (fn := Try.f26) (by kernel_rfl) rfl Try.ntmps26 (by rfl) (by rfl) ?_
 ((repeat refine Ws ?_);refine Wr ?_)
 simp (maxSteps := 1000000) only [VL,VM,↓VG,reduceIte,reduceCtorEq,zA,zB,zC,zD,zE,zF,zG,zH,zI,zJ]
 ((repeat refine Ws ?_);refine Wr ?_)
 have h0 : decide ((a.length : Int) = (b.length : Int)) = eqTo a b 0 := by rw [eqTo_zero]; by_cases e : a.length = b.length <;> simp [e] <;> omega
 simp (maxSteps := 1000000) only [VL,VM,↓VG,reduceIte,reduceCtorEq,zA,zB,zC,zD,zE,zF,zG,zH,zI,zJ, h0]
 ((repeat refine Ws ?_);refine Wr ?_)
 simp (maxSteps := 1000000) only [VL,VM,↓VG,reduceIte,reduceCtorEq,zA,zB,zC,zD,zE,zF,zG,zH,zI,zJ]
 ((repeat refine Ws ?_);refine W_block ?_; (repeat refine Ws ?_)); refine W_loopS (fun i : Nat => [(0, spsV a), (1, spsV b), (5, vb (eqTo a b i)), (6, vi i)]) (fun _ => M) (fun i => a.length - i) (fun i => i ≤ a.length) 0 (Nat.zero_le _) ⟨rfl, rfl, rfl, rfl, trivial⟩ rfl ?_
 intro i hi
 have k1 : -9223372036854775808 ≤ (i : Int) + 1 ∧ (i : Int) + 1 < 9223372036854775808 := by omega
 ((repeat refine Ws ?_);refine Wr ?_)
 cases he : eqTo a b i
 ·simp (maxSteps := 1000000) only [VL,VM,↓VG,reduceIte,reduceCtorEq,zA,zB,zC,zD,zE,zF,zG,zH,zI,zJ]
  ((repeat refine Ws ?_);refine Wf (by first|rfl|simp only [EV,zF,reduceIte]) ?_)
  ((repeat refine Ws ?_);refine W_exit ?_)
  simp (maxSteps := 1000000) only [VL,VM,↓VG,reduceIte,reduceCtorEq,zA,zB,zC,zD,zE,zF,zG,zH,zI,zJ]
  ((repeat refine Ws ?_);refine Wr ?_)
  simp (maxSteps := 1000000) only [VL,VM,↓VG,reduceIte,reduceCtorEq,zA,zB,zC,zD,zE,zF,zG,zH,zI,zJ]
  (repeat refine Ws ?_)
  refine W_ret ?_
  try simp only [thenQ, blockQ]
  refine own_ret10 rfl ?_ (by rfl)
  simp only [get_cons, frz, vtup, Nat.reduceEqDiff, if_true, if_false, reduceIte]
  rw [eqTo_no he]
 rcases Nat.lt_or_ge i a.length with hlt | hge
 ·have k2 : ((i : Int) < (a.length : Int)) = True := eq_true (by omega)
  have hl : a.length = b.length := by
   unfold eqTo at he
   simp only [Bool.and_eq_true, decide_eq_true_eq] at he
   exact he.1
  have hx : a[i]? = some a[i] := List.getElem?_eq_getElem hlt
  have hy : b[i]? = some (b[i]'(by omega)) := List.getElem?_eq_getElem (by omega)
  have hmx := List.getElem_mem hlt
  generalize a[i] = x at hx hmx
  generalize b[i]'(by omega) = y at hy
  have hx' := map_at (f := spP) hx
  have hy' := map_at (f := spP) hy
  have hs := eqTo_succ hx hy he
  simp (maxSteps := 1000000) only [VL,VM,↓VG,reduceIte,reduceCtorEq,zA,zB,zC,zD,zE,zF,zG,zH,zI,zJ, k2]
  ((repeat refine Ws ?_);refine Wt (by first|rfl|simp only [EV,zF,reduceIte]) ?_)
  ((repeat refine Ws ?_);refine W_skip ?_)
  simp (maxSteps := 1000000) only [VL,VM,↓VG,reduceIte,reduceCtorEq,zA,zB,zC,zD,zE,zF,zG,zH,zI,zJ]
  ((repeat refine Ws ?_);refine W_block ?_)
  (repeat refine Ws ?_)
  refine W_drawP T_ok [] (by kernel_rfl) (by kernel_rfl) ?_
  generalize hi : mkPlan _ = infs
  cbv at hi
  subst hi
  simp (maxSteps := 1000000) only [VL,VM,↓VG,reduceIte,reduceCtorEq,zA,zB,zC,zD,zE,zF,zG,zH,zI,zJ, hx', hy']
  ((repeat refine Ws ?_);refine Wr ?_)
  simp (maxSteps := 1000000) only [VL,VM,↓VG,reduceIte,reduceCtorEq,zA,zB,zC,zD,zE,zF,zG,zH,zI,zJ, k1]
  refine LoopK.mk (i + 1) (by omega) (by omega) ⟨rfl, rfl, ?_, rfl, trivial⟩ rfl
  rw [hs]; rfl
 have k2 : ((i : Int) < (a.length : Int)) = False := eq_false (by omega)
 simp (maxSteps := 1000000) only [VL,VM,↓VG,reduceIte,reduceCtorEq,zA,zB,zC,zD,zE,zF,zG,zH,zI,zJ, k2]
 ((repeat refine Ws ?_);refine Wf (by first|rfl|simp only [EV,zF,reduceIte]) ?_)
 ((repeat refine Ws ?_);refine W_exit ?_)
 simp (maxSteps := 1000000) only [VL,VM,↓VG,reduceIte,reduceCtorEq,zA,zB,zC,zD,zE,zF,zG,zH,zI,zJ]
 ((repeat refine Ws ?_);refine Wr ?_)
 simp (maxSteps := 1000000) only [VL,VM,↓VG,reduceIte,reduceCtorEq,zA,zB,zC,zD,zE,zF,zG,zH,zI,zJ]
 (repeat refine Ws ?_)
 refine W_ret ?_
 try simp only [thenQ, blockQ]
 refine own_ret10 rfl ?_ (by rfl)
 simp only [get_cons, frz, vtup, Nat.reduceEqDiff, if_true, if_false, reduceIte]
 have hi3 : i = a.length := by omega
 subst hi3
 rw [← eqTo_end, he]
theorem sameTables_v (a b : List (List Int)) (M : Mem) (ha : a.length ≤ 1000000) (hr : ∀ x ∈ a, x.length ≤ 1000000) : VC Try.prog 41 [tabV a, tabV b] M (fun r M' => M' = M ∧ r = vb (decide (a = b))) := by
 refine VC_own' T_ok (f := 41) (fn := Try.f41) (by kernel_rfl) rfl Try.ntmps41 (by rfl) (by rfl) ?_
 ((repeat refine Ws ?_);refine Wr ?_)
 simp (maxSteps := 1000000) only [VL,VM,↓VG,reduceIte,reduceCtorEq,zA,zB,zC,zD,zE,zF,zG,zH,zI,zJ]
 ((repeat refine Ws ?_);refine Wr ?_)
 have h0 : decide ((a.length : Int) = (b.length : Int)) = eqTo a b 0 := by rw [eqTo_zero]; by_cases e : a.length = b.length <;> simp [e] <;> omega
 simp (maxSteps := 1000000) only [VL,VM,↓VG,reduceIte,reduceCtorEq,zA,zB,zC,zD,zE,zF,zG,zH,zI,zJ, h0]
 ((repeat refine Ws ?_);refine Wr ?_)
 simp (maxSteps := 1000000) only [VL,VM,↓VG,reduceIte,reduceCtorEq,zA,zB,zC,zD,zE,zF,zG,zH,zI,zJ]
 ((repeat refine Ws ?_);refine W_block ?_; (repeat refine Ws ?_)); refine W_loopS (fun i : Nat => [(0, tabV a), (1, tabV b), (5, vb (eqTo a b i)), (6, vi i)]) (fun _ => M) (fun i => a.length - i) (fun i => i ≤ a.length) 0 (Nat.zero_le _) ⟨rfl, rfl, rfl, rfl, trivial⟩ rfl ?_
 intro i hi
 have k1 : -9223372036854775808 ≤ (i : Int) + 1 ∧ (i : Int) + 1 < 9223372036854775808 := by omega
 ((repeat refine Ws ?_);refine Wr ?_)
 cases he : eqTo a b i
 ·simp (maxSteps := 1000000) only [VL,VM,↓VG,reduceIte,reduceCtorEq,zA,zB,zC,zD,zE,zF,zG,zH,zI,zJ]
  ((repeat refine Ws ?_);refine Wf (by first|rfl|simp only [EV,zF,reduceIte]) ?_)
  ((repeat refine Ws ?_);refine W_exit ?_)
  simp (maxSteps := 1000000) only [VL,VM,↓VG,reduceIte,reduceCtorEq,zA,zB,zC,zD,zE,zF,zG,zH,zI,zJ]
  ((repeat refine Ws ?_);refine Wr ?_)
  simp (maxSteps := 1000000) only [VL,VM,↓VG,reduceIte,reduceCtorEq,zA,zB,zC,zD,zE,zF,zG,zH,zI,zJ]
  (repeat refine Ws ?_)
  refine W_ret ?_
  try simp only [thenQ, blockQ]
  refine own_ret10 rfl ?_ (by rfl)
  simp only [get_cons, frz, vtup, Nat.reduceEqDiff, if_true, if_false, reduceIte]
  rw [eqTo_no he]
 rcases Nat.lt_or_ge i a.length with hlt | hge
 ·have k2 : ((i : Int) < (a.length : Int)) = True := eq_true (by omega)
  have hl : a.length = b.length := by
   unfold eqTo at he
   simp only [Bool.and_eq_true, decide_eq_true_eq] at he
   exact he.1
  have hx : a[i]? = some a[i] := List.getElem?_eq_getElem hlt
  have hy : b[i]? = some (b[i]'(by omega)) := List.getElem?_eq_getElem (by omega)
  have hmx := List.getElem_mem hlt
  generalize a[i] = x at hx hmx
  generalize b[i]'(by omega) = y at hy
  have hx' := map_at (f := rowP) hx
  have hy' := map_at (f := rowP) hy
  have hs := eqTo_succ hx hy he
  simp (maxSteps := 1000000) only [VL,VM,↓VG,reduceIte,reduceCtorEq,zA,zB,zC,zD,zE,zF,zG,zH,zI,zJ, k2]
  ((repeat refine Ws ?_);refine Wt (by first|rfl|simp only [EV,zF,reduceIte]) ?_)
  ((repeat refine Ws ?_);refine W_skip ?_)
  simp (maxSteps := 1000000) only [VL,VM,↓VG,reduceIte,reduceCtorEq,zA,zB,zC,zD,zE,zF,zG,zH,zI,zJ]
  ((repeat refine Ws ?_);refine W_block ?_)
  (repeat refine Ws ?_)
  refine W_drawP T_ok [] (by kernel_rfl) (by kernel_rfl) ?_
  generalize hi : mkPlan _ = infs
  cbv at hi
  subst hi
  simp (maxSteps := 1000000) only [VL,VM,↓VG,reduceIte,reduceCtorEq,zA,zB,zC,zD,zE,zF,zG,zH,zI,zJ, hx', hy']
  apply call_d (f := 34) (fn := Try.f34) (by kernel_rfl) (by rfl)
  ·exact sameInts_v x y _ (hr x hmx)
  simp (maxSteps := 1000000) only [VL,VM,↓VG,reduceIte,reduceCtorEq,zA,zB,zC,zD,zE,zF,zG,zH,zI,zJ, hx', hy']
  ((repeat refine Ws ?_);refine Wr ?_)
  simp (maxSteps := 1000000) only [VL,VM,↓VG,reduceIte,reduceCtorEq,zA,zB,zC,zD,zE,zF,zG,zH,zI,zJ, k1]
  refine LoopK.mk (i + 1) (by omega) (by omega) ⟨rfl, rfl, ?_, rfl, trivial⟩ rfl
  rw [hs]; rfl
 have k2 : ((i : Int) < (a.length : Int)) = False := eq_false (by omega)
 simp (maxSteps := 1000000) only [VL,VM,↓VG,reduceIte,reduceCtorEq,zA,zB,zC,zD,zE,zF,zG,zH,zI,zJ, k2]
 ((repeat refine Ws ?_);refine Wf (by first|rfl|simp only [EV,zF,reduceIte]) ?_)
 ((repeat refine Ws ?_);refine W_exit ?_)
 simp (maxSteps := 1000000) only [VL,VM,↓VG,reduceIte,reduceCtorEq,zA,zB,zC,zD,zE,zF,zG,zH,zI,zJ]
 ((repeat refine Ws ?_);refine Wr ?_)
 simp (maxSteps := 1000000) only [VL,VM,↓VG,reduceIte,reduceCtorEq,zA,zB,zC,zD,zE,zF,zG,zH,zI,zJ]
 (repeat refine Ws ?_)
 refine W_ret ?_
 try simp only [thenQ, blockQ]
 refine own_ret10 rfl ?_ (by rfl)
 simp only [get_cons, frz, vtup, Nat.reduceEqDiff, if_true, if_false, reduceIte]
 have hi3 : i = a.length := by omega
 subst hi3
 rw [← eqTo_end, he]
end Go.Proofs.Ytmagiabapakhcaa.Vm

/- Inside, and the chapter's examples as values. (Vm) -/
namespace Go.Proofs.Ytmagiabapakhcaa.Vm
open Go Go.Proofs
def insideR (h : Ho) : VV := if houseErr h = 0 then (match insideH h with
 | some l => .tup [spsV l, vi 0]
 | none => .tup [.p (.sl 0 []), vi 9]) else .tup [.p (.sl 0 []), vi (houseErr h)]
theorem Inside_v (h : Ho) (M : Mem) (hl : h.holds.length ≤ 1000000) (hld : h.doors.length ≤ 1000000) (hlc : h.counts.length ≤ 1000000) : VC Try.prog 22 [houseV h] M (fun r M' => M' = M ∧ r = insideR h) := by
 refine VC_own' T_ok (f := 22) (fn := Try.f22) (by kernel_rfl) rfl Try.ntmps22 (by rfl) (by rfl) ?_
 ((repeat refine Ws ?_);refine Wr ?_)
 simp (maxSteps := 1000000) only [VL,VM,↓VG,reduceIte,reduceCtorEq,zA,zB,zC,zD,zE,zF,zG,zH,zI,zJ]
 ((repeat refine Ws ?_);refine Wr ?_)
 simp (maxSteps := 1000000) only [VL,VM,↓VG,reduceIte,reduceCtorEq,zA,zB,zC,zD,zE,zF,zG,zH,zI,zJ]
 apply call_eq (f := 24) (fn := Try.f24) (by kernel_rfl) (by rfl)
 ·exact check_v h _ hl hld hlc
 simp (maxSteps := 1000000) only [VL,VM,↓VG,reduceIte,reduceCtorEq,zA,zB,zC,zD,zE,zF,zG,zH,zI,zJ]
 ((repeat refine Ws ?_);refine Wr ?_)
 by_cases a1 : houseErr h = 0
 rotate_left
 ·simp (maxSteps := 1000000) only [VL,VM,↓VG,reduceIte,reduceCtorEq,zA,zB,zC,zD,zE,zF,zG,zH,zI,zJ, a1]
  ((repeat refine Ws ?_);refine Wt (by first|rfl|simp only [EV,zF,reduceIte]) ?_)
  ((repeat refine Ws ?_);refine Wr ?_)
  simp (maxSteps := 1000000) only [VL,VM,↓VG,reduceIte,reduceCtorEq,zA,zB,zC,zD,zE,zF,zG,zH,zI,zJ]
  (repeat refine Ws ?_)
  refine W_ret ?_
  try simp only [thenQ, blockQ]
  refine own_ret (vs := [.sf 0 [], vi (houseErr h)]) (r := .tup [.p (.sl 0 []), vi (houseErr h)]) rfl (by simp [vtup, frz, frzL]) (by simp [refs, refsL]) ⟨rfl, ?_⟩
  unfold insideR
  rw [if_neg a1]
 simp (maxSteps := 1000000) only [VL,VM,↓VG,reduceIte,reduceCtorEq,zA,zB,zC,zD,zE,zF,zG,zH,zI,zJ, a1]
 ((repeat refine Ws ?_);refine Wf (by first|rfl|simp only [EV,zF,reduceIte]) ?_)
 ((repeat refine Ws ?_);refine W_skip ?_)
 simp (maxSteps := 1000000) only [VL,VM,↓VG,reduceIte,reduceCtorEq,zA,zB,zC,zD,zE,zF,zG,zH,zI,zJ]
 ((repeat refine Ws ?_);refine Wr ?_)
 simp (maxSteps := 1000000) only [VL,VM,↓VG,reduceIte,reduceCtorEq,zA,zB,zC,zD,zE,zF,zG,zH,zI,zJ]
 apply call_eq (f := 65) (fn := Try.f65) (by kernel_rfl) (by rfl)
 ·exact inside_v h (houseErr_ok.1 a1) _
 have hR : insideR h = (match insideH h with
  | some l => .tup [spsV l, vi 0]
  | none => .tup [.p (.sl 0 []), vi 9]) := if_pos a1
 unfold insR
 cases hi : insideH h with
 | none =>
  rw [hi] at hR
  simp (maxSteps := 1000000) only [VL,VM,↓VG,reduceIte,reduceCtorEq,zA,zB,zC,zD,zE,zF,zG,zH,zI,zJ]
  ((repeat refine Ws ?_);refine Wr ?_)
  simp (maxSteps := 1000000) only [VL,VM,↓VG,reduceIte,reduceCtorEq,zA,zB,zC,zD,zE,zF,zG,zH,zI,zJ]
  ((repeat refine Ws ?_);refine Wt (by first|rfl|simp only [EV,zF,reduceIte]) ?_)
  ((repeat refine Ws ?_);refine Wr ?_)
  simp (maxSteps := 1000000) only [VL,VM,↓VG,reduceIte,reduceCtorEq,zA,zB,zC,zD,zE,zF,zG,zH,zI,zJ]
  (repeat refine Ws ?_)
  refine W_ret ?_
  try simp only [thenQ, blockQ]
  refine own_ret (vs := [.sf 0 [], vi 9]) (r := .tup [.p (.sl 0 []), vi 9]) rfl (by simp [vtup, frz, frzL]) (by simp [refs, refsL]) ⟨rfl, hR.symm⟩
 | some l =>
  rw [hi] at hR
  simp (maxSteps := 1000000) only [VL,VM,↓VG,reduceIte,reduceCtorEq,zA,zB,zC,zD,zE,zF,zG,zH,zI,zJ]
  ((repeat refine Ws ?_);refine Wr ?_)
  simp (maxSteps := 1000000) only [VL,VM,↓VG,reduceIte,reduceCtorEq,zA,zB,zC,zD,zE,zF,zG,zH,zI,zJ]
  ((repeat refine Ws ?_);refine Wf (by first|rfl|simp only [EV,zF,reduceIte]) ?_)
  ((repeat refine Ws ?_);refine W_skip ?_)
  simp (maxSteps := 1000000) only [VL,VM,↓VG,reduceIte,reduceCtorEq,zA,zB,zC,zD,zE,zF,zG,zH,zI,zJ]
  ((repeat refine Ws ?_);refine Wr ?_)
  simp (maxSteps := 1000000) only [VL,VM,↓VG,reduceIte,reduceCtorEq,zA,zB,zC,zD,zE,zF,zG,zH,zI,zJ]
  (repeat refine Ws ?_)
  refine W_ret ?_
  try simp only [thenQ, blockQ]
  refine own_ret (vs := [spsV l, vi 0]) (r := .tup [spsV l, vi 0]) rfl (by simp [vtup, frz, frzL]) (by simp [refs, refsL]) ⟨rfl, hR.symm⟩
theorem spanl_v (a b : Int) (M : Mem) : VC Try.prog 46 [vi a, vi b] M (fun r M' => M' = M ∧ r = spV ⟨a, b⟩) := by
 refine VC_own' T_ok (f := 46) (fn := Try.f46) (by kernel_rfl) rfl Try.ntmps46 (by rfl) (by rfl) ?_
 ((repeat refine Ws ?_);refine Wr ?_)
 simp (maxSteps := 1000000) only [VL,VM,↓VG,reduceIte,reduceCtorEq,zA,zB,zC,zD,zE,zF,zG,zH,zI,zJ]
 ((repeat refine Ws ?_);refine Wr ?_)
 simp (maxSteps := 1000000) only [VL,VM,↓VG,reduceIte,reduceCtorEq,zA,zB,zC,zD,zE,zF,zG,zH,zI,zJ]
 (repeat refine Ws ?_)
 refine W_ret ?_
 try simp only [thenQ, blockQ]
 refine own_ret (L := [.obj [vi a, vi b]]) (vs := [spV ⟨a, b⟩]) ?_ rfl rfl ⟨rfl, rfl⟩
 simp [Try.f46, vresL, vload, t_span, get_cons, hget0, strip1]
 rfl
end Go.Proofs.Ytmagiabapakhcaa.Vm
namespace Go.Proofs.Ytmagiabapakhcaa
def hH : Ho := ⟨[100, 50], [⟨0, -1, 20⟩, ⟨0, 1, 10⟩, ⟨1, -1, 5⟩], ⟨10, 15⟩, 3, [⟨0, 0, ⟨20, 25⟩, ⟨0, 5⟩⟩, ⟨1, 0, ⟨5, 5⟩, ⟨10, 20⟩⟩, ⟨2, 2, ⟨0, 0⟩, ⟨30, 30⟩⟩]⟩
def kK : Kn := ⟨[30, 20, 40], [⟨0, 0, 25⟩, ⟨0, 2, 40⟩, ⟨1, 1, 30⟩]⟩
theorem hH_err : houseErr hH = 0 := by decide +kernel
theorem hH_inside : insideH hH = some [⟨10, 15⟩, ⟨35, 40⟩, ⟨30, 35⟩, ⟨0, 5⟩] := by decide +kernel
theorem kK_err : kitErr kK = 0 := by decide +kernel
end Go.Proofs.Ytmagiabapakhcaa
namespace Go.Proofs.Ytmagiabapakhcaa.Vm
open Go Go.Proofs
theorem house_v (M : Mem) : VC Try.prog 60 [] M (fun r M' => M' = M ∧ r = houseV hH) := by
 refine VC_own' T_ok (f := 60) (fn := Try.f60) (by kernel_rfl) rfl Try.ntmps60 (by rfl) (by rfl) ?_
 ((repeat refine Ws ?_);refine Wr ?_)
 simp (maxSteps := 1000000) only [VL,VM,↓VG,reduceIte,reduceCtorEq,zA,zB,zC,zD,zE,zF,zG,zH,zI,zJ]
 ((repeat refine Ws ?_);refine Wr ?_)
 simp (maxSteps := 1000000) only [VL,VM,↓VG,reduceIte,reduceCtorEq,zA,zB,zC,zD,zE,zF,zG,zH,zI,zJ]
 apply call_eq (f := 46) (fn := Try.f46) (by kernel_rfl) (by rfl)
 ·exact spanl_v 10 15 _
 simp (maxSteps := 1000000) only [VL,VM,↓VG,reduceIte,reduceCtorEq,zA,zB,zC,zD,zE,zF,zG,zH,zI,zJ]
 apply call_eq (f := 46) (fn := Try.f46) (by kernel_rfl) (by rfl)
 ·exact spanl_v 20 25 _
 simp (maxSteps := 1000000) only [VL,VM,↓VG,reduceIte,reduceCtorEq,zA,zB,zC,zD,zE,zF,zG,zH,zI,zJ]
 apply call_eq (f := 46) (fn := Try.f46) (by kernel_rfl) (by rfl)
 ·exact spanl_v 0 5 _
 simp (maxSteps := 1000000) only [VL,VM,↓VG,reduceIte,reduceCtorEq,zA,zB,zC,zD,zE,zF,zG,zH,zI,zJ]
 apply call_eq (f := 46) (fn := Try.f46) (by kernel_rfl) (by rfl)
 ·exact spanl_v 5 5 _
 simp (maxSteps := 1000000) only [VL,VM,↓VG,reduceIte,reduceCtorEq,zA,zB,zC,zD,zE,zF,zG,zH,zI,zJ]
 apply call_eq (f := 46) (fn := Try.f46) (by kernel_rfl) (by rfl)
 ·exact spanl_v 10 20 _
 simp (maxSteps := 1000000) only [VL,VM,↓VG,reduceIte,reduceCtorEq,zA,zB,zC,zD,zE,zF,zG,zH,zI,zJ]
 apply call_eq (f := 46) (fn := Try.f46) (by kernel_rfl) (by rfl)
 ·exact spanl_v 30 30 _
 simp (maxSteps := 1000000) only [VL,VM,↓VG,reduceIte,reduceCtorEq,zA,zB,zC,zD,zE,zF,zG,zH,zI,zJ]
 (repeat refine Ws ?_)
 refine W_ret ?_
 try simp only [thenQ, blockQ]
 refine own_ret (vs := [houseV hH]) ?_ rfl rfl ⟨rfl, rfl⟩
 simp [Try.f60, vresL, vload, t_house, get_cons, hget0, strip1]
 rfl
theorem kitchen_v (M : Mem) : VC Try.prog 61 [] M (fun r M' => M' = M ∧ r = kitV kK) := by
 refine VC_own' T_ok (f := 61) (fn := Try.f61) (by kernel_rfl) rfl Try.ntmps61 (by rfl) (by rfl) ?_
 ((repeat refine Ws ?_);refine Wr ?_)
 simp (maxSteps := 1000000) only [VL,VM,↓VG,reduceIte,reduceCtorEq,zA,zB,zC,zD,zE,zF,zG,zH,zI,zJ]
 ((repeat refine Ws ?_);refine Wr ?_)
 simp (maxSteps := 1000000) only [VL,VM,↓VG,reduceIte,reduceCtorEq,zA,zB,zC,zD,zE,zF,zG,zH,zI,zJ]
 (repeat refine Ws ?_)
 refine W_ret ?_
 try simp only [thenQ, blockQ]
 refine own_ret (vs := [kitV kK]) ?_ rfl rfl ⟨rfl, rfl⟩
 simp [Try.f61, vresL, vload, t_kitchen, get_cons, hget0, strip1]
 rfl
end Go.Proofs.Ytmagiabapakhcaa.Vm
