/- A part of the proofs about the chapter of the doors; it states no condition of its own. -/
import Derived.Test.YtekhddlngbppkaaDoorB25
set_option linter.unusedVariables false
set_option linter.unusedSimpArgs false
open Int renaming reduceLE → zA, reduceLT → zB, reduceToNat → zC, reduceNeg → zD
open Nat renaming reduceLT → zE, reduceEqDiff → zF, reduceAdd → zG, reduceSub → zH, reduceMul → zI, reduceLeDiff → zJ
/- Lists are compared, on values. (Vm) -/
namespace Go.Proofs.YtekhddlngbppkaaDoor.Vm
open Go Go.Proofs
theorem VC_nil0 {P : Program} {f k k0 : Nat} {us vs : List VV} {M : Mem} {Q : VV → Mem → Prop} (h : VC P f (us ++ .p (.sl k []) :: vs) M Q) : VC P f (us ++ .p (.sl k0 []) :: vs) M Q := by
 intro G w K rargs hI ha
 refine h G w K rargs hI ?_
 obtain ⟨hr, hc⟩ := ha
 refine ⟨⟨by have := hr.1; simpa using this, fun i a b hx hy => ?_⟩, fun a hm => ?_⟩
 ·rcases Nat.lt_trichotomy i us.length with hlt | heq | hgt
  ·exact hr.2 i a b hx (by rw [List.getElem?_append_left hlt] at hy ⊢; exact hy)
  ·subst heq
   rw [List.getElem?_append_right (Nat.le_refl _), Nat.sub_self] at hy
   cases hy
   have hy' : (us ++ VV.p (.sl k0 []) :: vs)[us.length]? = some (.p (.sl k0 [])) := by
    rw [List.getElem?_append_right (Nat.le_refl _), Nat.sub_self]; rfl
   have := hr.2 _ a _ hx hy'
   cases this with
   | p _ _ hp =>
   cases hp with
   | sl A c _ b off _ g q1 q2 q3 q4 q5 q6 q7 => exact .p _ _ (.sl A c k b off [] g q1 q2 (fun x hx => by cases hx) q4 (fun i x j u hx => by simp at hx) (fun i x j u hx => by simp at hx) (fun i x j u hx => by simp at hx))
  ·exact hr.2 i a b hx (by
    rw [List.getElem?_append_right (by omega)] at hy ⊢
    rw [show i - us.length = (i - us.length - 1) + 1 by omega] at hy ⊢
    exact hy)
 ·rcases List.mem_append.1 hm with hm | hm
  ·exact hc a (List.mem_append_left _ hm)
  ·rcases List.mem_cons.1 hm with rfl | hm
   ·intro r hr'
    simp [refs] at hr'
   ·exact hc a (List.mem_append_right _ (List.mem_cons_of_mem _ hm))
def eqTo {α : Type} [DecidableEq α] (a b : List α) (i : Nat) : Bool := decide (a.length = b.length) && decide (a.take i = b.take i)
theorem eqTo_zero {α : Type} [DecidableEq α] (a b : List α) : eqTo a b 0 = decide (a.length = b.length) := by simp [eqTo]
theorem eqTo_succ {α : Type} [DecidableEq α] {a b : List α} {i : Nat} {x y : α} (hx : a[i]? = some x) (hy : b[i]? = some y) (h : eqTo a b i = true) : eqTo a b (i + 1) = decide (x = y) := by
 unfold eqTo at *
 simp only [Bool.and_eq_true, decide_eq_true_eq] at h
 rw [decide_eq_true h.1, Bool.true_and, List.take_add_one, List.take_add_one, hx, hy, h.2]
 simp
theorem eqTo_end {α : Type} [DecidableEq α] {a b : List α} : eqTo a b a.length = decide (a = b) := by
 unfold eqTo
 by_cases h : a.length = b.length
 ·rw [decide_eq_true h, Bool.true_and, List.take_length, h, List.take_length]
 ·rw [decide_eq_false h, Bool.false_and]
  symm
  rw [decide_eq_false_iff_not]
  intro e; exact h (by rw [e])
theorem eqTo_no {α : Type} [DecidableEq α] {a b : List α} {i : Nat} (h : eqTo a b i = false) : decide (a = b) = false := by
 rw [decide_eq_false_iff_not]
 intro e
 subst e
 simp [eqTo] at h
theorem sameInts_v (a b : List (Int)) (M : Mem) (ha : a.length ≤ 1000000) : VC Tryd.prog 41 [intsV a, intsV b] M (fun r M' => M' = M ∧ r = vb (decide (a = b))) := by
 refine VC_own' T_ok (f := 41) (fn := Tryd.f41) (by kernel_rfl) rfl Tryd.ntmps41 (by rfl) (by rfl) ?_
 ((repeat refine Ws ?_);refine Wr ?_)
 simp (maxSteps := 1000000) only [VL,VM,↓VG,reduceIte,reduceCtorEq,zA,zB,zC,zD,zE,zF,zG,zH,zI,zJ]
 ((repeat refine Ws ?_);refine Wr ?_)
 have h0 : decide ((a.length : Int) = (b.length : Int)) = eqTo a b 0 := by rw [eqTo_zero]; by_cases e : a.length = b.length <;> simp [e] <;> omega
 simp (maxSteps := 1000000) only [VL,VM,↓VG,reduceIte,reduceCtorEq,zA,zB,zC,zD,zE,zF,zG,zH,zI,zJ, h0]
 ((repeat refine Ws ?_);refine Wr ?_)
 simp (maxSteps := 1000000) only [VL,VM,↓VG,reduceIte,reduceCtorEq,zA,zB,zC,zD,zE,zF,zG,zH,zI,zJ]
 ((repeat refine Ws ?_);refine W_block ?_; (repeat refine Ws ?_)); refine W_loopS (fun i : Nat => [(0, intsV a), (1, intsV b), (5, vb (eqTo a b i)), (6, vi i)]) (fun _ => M) (fun i => a.length - i) (fun i => i ≤ a.length) 0 (Nat.zero_le _) ⟨rfl, rfl, rfl, rfl, trivial⟩ rfl ?_
 intro i hi
 have k1 : -9223372036854775808 ≤ (i : Int) + 1 ∧ (i : Int) + 1 < 9223372036854775808 := by omega
 ((repeat refine Ws ?_);refine Wr ?_)
 cases he : eqTo a b i
 ·simp (maxSteps := 1000000) only [VL,VM,↓VG,reduceIte,reduceCtorEq,zA,zB,zC,zD,zE,zF,zG,zH,zI,zJ]
  ((repeat refine Ws ?_);refine Wf (by first|rfl|simp only [EV,zF,reduceIte]) ?_)
  ((repeat refine Ws ?_);refine W_exit ?_)
  simp (maxSteps := 1000000) only [VL,VM,↓VG,reduceIte,reduceCtorEq,zA,zB,zC,zD,zE,zF,zG,zH,zI,zJ]
  ((repeat refine Ws ?_);refine Wr ?_)
  simp (maxSteps := 1000000) only [VL,VM,↓VG,reduceIte,reduceCtorEq,zA,zB,zC,zD,zE,zF,zG,zH,zI,zJ]
  (repeat refine Ws ?_)
  refine W_ret ?_
  try simp only [thenQ, blockQ]
  refine own_ret10 rfl ?_ (by rfl)
  simp only [get_cons, frz, vtup, Nat.reduceEqDiff, if_true, if_false, reduceIte]
  rw [eqTo_no he]
 rcases Nat.lt_or_ge i a.length with hlt | hge
 ·have k2 : ((i : Int) < (a.length : Int)) = True := eq_true (by omega)
  have hl : a.length = b.length := by
   unfold eqTo at he
   simp only [Bool.and_eq_true, decide_eq_true_eq] at he
   exact he.1
  have hx : a[i]? = some a[i] := List.getElem?_eq_getElem hlt
  have hy : b[i]? = some (b[i]'(by omega)) := List.getElem?_eq_getElem (by omega)
  have hmx := List.getElem_mem hlt
  generalize a[i] = x at hx hmx
  generalize b[i]'(by omega) = y at hy
  have hx' := map_at (f := intP) hx
  have hy' := map_at (f := intP) hy
  have hs := eqTo_succ hx hy he
  simp (maxSteps := 1000000) only [VL,VM,↓VG,reduceIte,reduceCtorEq,zA,zB,zC,zD,zE,zF,zG,zH,zI,zJ, k2]
  ((repeat refine Ws ?_);refine Wt (by first|rfl|simp only [EV,zF,reduceIte]) ?_)
  ((repeat refine Ws ?_);refine W_skip ?_)
  simp (maxSteps := 1000000) only [VL,VM,↓VG,reduceIte,reduceCtorEq,zA,zB,zC,zD,zE,zF,zG,zH,zI,zJ]
  ((repeat refine Ws ?_);refine W_block ?_)
  (repeat refine Ws ?_)
  refine W_drawP T_ok [] (by kernel_rfl) (by kernel_rfl) ?_
  generalize hi : mkPlan _ = infs
  cbv at hi
  subst hi
  simp (maxSteps := 1000000) only [VL,VM,↓VG,reduceIte,reduceCtorEq,zA,zB,zC,zD,zE,zF,zG,zH,zI,zJ, hx', hy']
  ((repeat refine Ws ?_);refine Wr ?_)
  simp (maxSteps := 1000000) only [VL,VM,↓VG,reduceIte,reduceCtorEq,zA,zB,zC,zD,zE,zF,zG,zH,zI,zJ, k1]
  refine LoopK.mk (i + 1) (by omega) (by omega) ⟨rfl, rfl, ?_, rfl, trivial⟩ rfl
  rw [hs]; rfl
 have k2 : ((i : Int) < (a.length : Int)) = False := eq_false (by omega)
 simp (maxSteps := 1000000) only [VL,VM,↓VG,reduceIte,reduceCtorEq,zA,zB,zC,zD,zE,zF,zG,zH,zI,zJ, k2]
 ((repeat refine Ws ?_);refine Wf (by first|rfl|simp only [EV,zF,reduceIte]) ?_)
 ((repeat refine Ws ?_);refine W_exit ?_)
 simp (maxSteps := 1000000) only [VL,VM,↓VG,reduceIte,reduceCtorEq,zA,zB,zC,zD,zE,zF,zG,zH,zI,zJ]
 ((repeat refine Ws ?_);refine Wr ?_)
 simp (maxSteps := 1000000) only [VL,VM,↓VG,reduceIte,reduceCtorEq,zA,zB,zC,zD,zE,zF,zG,zH,zI,zJ]
 (repeat refine Ws ?_)
 refine W_ret ?_
 try simp only [thenQ, blockQ]
 refine own_ret10 rfl ?_ (by rfl)
 simp only [get_cons, frz, vtup, Nat.reduceEqDiff, if_true, if_false, reduceIte]
 have hi3 : i = a.length := by omega
 subst hi3
 rw [← eqTo_end, he]
theorem sameSpans_v (a b : List (Sp)) (M : Mem) (ha : a.length ≤ 1000000) : VC Tryd.prog 16 [spsV a, spsV b] M (fun r M' => M' = M ∧ r = vb (decide (a = b))) := by
 refine VC_own' T_ok (f := 16) (fn := Tryd.f16) (by kernel_rfl) rfl Tryd.ntmps16 (by rfl) (by rfl) ?_
 ((repeat refine Ws ?_);refine Wr ?_)
 simp (maxSteps := 1000000) only [VL,VM,↓VG,reduceIte,reduceCtorEq,zA,zB,zC,zD,zE,zF,zG,zH,zI,zJ]
 ((repeat refine Ws ?_);refine Wr ?_)
 have h0 : decide ((a.length : Int) = (b.length : Int)) = eqTo a b 0 := by rw [eqTo_zero]; by_cases e : a.length = b.length <;> simp [e] <;> omega
 simp (maxSteps := 1000000) only [VL,VM,↓VG,reduceIte,reduceCtorEq,zA,zB,zC,zD,zE,zF,zG,zH,zI,zJ, h0]
 ((repeat refine Ws ?_);refine Wr ?_)
 simp (maxSteps := 1000000) only [VL,VM,↓VG,reduceIte,reduceCtorEq,zA,zB,zC,zD,zE,zF,zG,zH,zI,zJ]
 ((repeat refine Ws ?_);refine W_block ?_; (repeat refine Ws ?_)); refine W_loopS (fun i : Nat => [(0, spsV a), (1, spsV b), (5, vb (eqTo a b i)), (6, vi i)]) (fun _ => M) (fun i => a.length - i) (fun i => i ≤ a.length) 0 (Nat.zero_le _) ⟨rfl, rfl, rfl, rfl, trivial⟩ rfl ?_
 intro i hi
 have k1 : -9223372036854775808 ≤ (i : Int) + 1 ∧ (i : Int) + 1 < 9223372036854775808 := by omega
 ((repeat refine Ws ?_);refine Wr ?_)
 cases he : eqTo a b i
 ·simp (maxSteps := 1000000) only [VL,VM,↓VG,reduceIte,reduceCtorEq,zA,zB,zC,zD,zE,zF,zG,zH,zI,zJ]
  ((repeat refine Ws ?_);refine Wf (by first|rfl|simp only [EV,zF,reduceIte]) ?_)
  ((repeat refine Ws ?_);refine W_exit ?_)
  simp (maxSteps := 1000000) only [VL,VM,↓VG,reduceIte,reduceCtorEq,zA,zB,zC,zD,zE,zF,zG,zH,zI,zJ]
  ((repeat refine Ws ?_);refine Wr ?_)
  simp (maxSteps := 1000000) only [VL,VM,↓VG,reduceIte,reduceCtorEq,zA,zB,zC,zD,zE,zF,zG,zH,zI,zJ]
  (repeat refine Ws ?_)
  refine W_ret ?_
  try simp only [thenQ, blockQ]
  refine own_ret10 rfl ?_ (by rfl)
  simp only [get_cons, frz, vtup, Nat.reduceEqDiff, if_true, if_false, reduceIte]
  rw [eqTo_no he]
 rcases Nat.lt_or_ge i a.length with hlt | hge
 ·have k2 : ((i : Int) < (a.length : Int)) = True := eq_true (by omega)
  have hl : a.length = b.length := by
   unfold eqTo at he
   simp only [Bool.and_eq_true, decide_eq_true_eq] at he
   exact he.1
  have hx : a[i]? = some a[i] := List.getElem?_eq_getElem hlt
  have hy : b[i]? = some (b[i]'(by omega)) := List.getElem?_eq_getElem (by omega)
  have hmx := List.getElem_mem hlt
  generalize a[i] = x at hx hmx
  generalize b[i]'(by omega) = y at hy
  have hx' := map_at (f := spP) hx
  have hy' := map_at (f := spP) hy
  have hs := eqTo_succ hx hy he
  simp (maxSteps := 1000000) only [VL,VM,↓VG,reduceIte,reduceCtorEq,zA,zB,zC,zD,zE,zF,zG,zH,zI,zJ, k2]
  ((repeat refine Ws ?_);refine Wt (by first|rfl|simp only [EV,zF,reduceIte]) ?_)
  ((repeat refine Ws ?_);refine W_skip ?_)
  simp (maxSteps := 1000000) only [VL,VM,↓VG,reduceIte,reduceCtorEq,zA,zB,zC,zD,zE,zF,zG,zH,zI,zJ]
  ((repeat refine Ws ?_);refine W_block ?_)
  (repeat refine Ws ?_)
  refine W_drawP T_ok [] (by kernel_rfl) (by kernel_rfl) ?_
  generalize hi : mkPlan _ = infs
  cbv at hi
  subst hi
  simp (maxSteps := 1000000) only [VL,VM,↓VG,reduceIte,reduceCtorEq,zA,zB,zC,zD,zE,zF,zG,zH,zI,zJ, hx', hy']
  ((repeat refine Ws ?_);refine Wr ?_)
  simp (maxSteps := 1000000) only [VL,VM,↓VG,reduceIte,reduceCtorEq,zA,zB,zC,zD,zE,zF,zG,zH,zI,zJ, k1]
  refine LoopK.mk (i + 1) (by omega) (by omega) ⟨rfl, rfl, ?_, rfl, trivial⟩ rfl
  rw [hs]; rfl
 have k2 : ((i : Int) < (a.length : Int)) = False := eq_false (by omega)
 simp (maxSteps := 1000000) only [VL,VM,↓VG,reduceIte,reduceCtorEq,zA,zB,zC,zD,zE,zF,zG,zH,zI,zJ, k2]
 ((repeat refine Ws ?_);refine Wf (by first|rfl|simp only [EV,zF,reduceIte]) ?_)
 ((repeat refine Ws ?_);refine W_exit ?_)
 simp (maxSteps := 1000000) only [VL,VM,↓VG,reduceIte,reduceCtorEq,zA,zB,zC,zD,zE,zF,zG,zH,zI,zJ]
 ((repeat refine Ws ?_);refine Wr ?_)
 simp (maxSteps := 1000000) only [VL,VM,↓VG,reduceIte,reduceCtorEq,zA,zB,zC,zD,zE,zF,zG,zH,zI,zJ]
 (repeat refine Ws ?_)
 refine W_ret ?_
 try simp only [thenQ, blockQ]
 refine own_ret10 rfl ?_ (by rfl)
 simp only [get_cons, frz, vtup, Nat.reduceEqDiff, if_true, if_false, reduceIte]
 have hi3 : i = a.length := by omega
 subst hi3
 rw [← eqTo_end, he]
theorem sameTables_v (a b : List (List Int)) (M : Mem) (ha : a.length ≤ 1000000) (hr : ∀ x ∈ a, x.length ≤ 1000000) : VC Tryd.prog 17 [tabV a, tabV b] M (fun r M' => M' = M ∧ r = vb (decide (a = b))) := by
 refine VC_own' T_ok (f := 17) (fn := Tryd.f17) (by kernel_rfl) rfl Tryd.ntmps17 (by rfl) (by rfl) ?_
 ((repeat refine Ws ?_);refine Wr ?_)
 simp (maxSteps := 1000000) only [VL,VM,↓VG,reduceIte,reduceCtorEq,zA,zB,zC,zD,zE,zF,zG,zH,zI,zJ]
 ((repeat refine Ws ?_);refine Wr ?_)
 have h0 : decide ((a.length : Int) = (b.length : Int)) = eqTo a b 0 := by rw [eqTo_zero]; by_cases e : a.length = b.length <;> simp [e] <;> omega
 simp (maxSteps := 1000000) only [VL,VM,↓VG,reduceIte,reduceCtorEq,zA,zB,zC,zD,zE,zF,zG,zH,zI,zJ, h0]
 ((repeat refine Ws ?_);refine Wr ?_)
 simp (maxSteps := 1000000) only [VL,VM,↓VG,reduceIte,reduceCtorEq,zA,zB,zC,zD,zE,zF,zG,zH,zI,zJ]
 ((repeat refine Ws ?_);refine W_block ?_; (repeat refine Ws ?_)); refine W_loopS (fun i : Nat => [(0, tabV a), (1, tabV b), (5, vb (eqTo a b i)), (6, vi i)]) (fun _ => M) (fun i => a.length - i) (fun i => i ≤ a.length) 0 (Nat.zero_le _) ⟨rfl, rfl, rfl, rfl, trivial⟩ rfl ?_
 intro i hi
 have k1 : -9223372036854775808 ≤ (i : Int) + 1 ∧ (i : Int) + 1 < 9223372036854775808 := by omega
 ((repeat refine Ws ?_);refine Wr ?_)
 cases he : eqTo a b i
 ·simp (maxSteps := 1000000) only [VL,VM,↓VG,reduceIte,reduceCtorEq,zA,zB,zC,zD,zE,zF,zG,zH,zI,zJ]
  ((repeat refine Ws ?_);refine Wf (by first|rfl|simp only [EV,zF,reduceIte]) ?_)
  ((repeat refine Ws ?_);refine W_exit ?_)
  simp (maxSteps := 1000000) only [VL,VM,↓VG,reduceIte,reduceCtorEq,zA,zB,zC,zD,zE,zF,zG,zH,zI,zJ]
  ((repeat refine Ws ?_);refine Wr ?_)
  simp (maxSteps := 1000000) only [VL,VM,↓VG,reduceIte,reduceCtorEq,zA,zB,zC,zD,zE,zF,zG,zH,zI,zJ]
  (repeat refine Ws ?_)
  refine W_ret ?_
  try simp only [thenQ, blockQ]
  refine own_ret10 rfl ?_ (by rfl)
  simp only [get_cons, frz, vtup, Nat.reduceEqDiff, if_true, if_false, reduceIte]
  rw [eqTo_no he]
 rcases Nat.lt_or_ge i a.length with hlt | hge
 ·have k2 : ((i : Int) < (a.length : Int)) = True := eq_true (by omega)
  have hl : a.length = b.length := by
   unfold eqTo at he
   simp only [Bool.and_eq_true, decide_eq_true_eq] at he
   exact he.1
  have hx : a[i]? = some a[i] := List.getElem?_eq_getElem hlt
  have hy : b[i]? = some (b[i]'(by omega)) := List.getElem?_eq_getElem (by omega)
  have hmx := List.getElem_mem hlt
  generalize a[i] = x at hx hmx
  generalize b[i]'(by omega) = y at hy
  have hx' := map_at (f := rowP) hx
  have hy' := map_at (f := rowP) hy
  have hs := eqTo_succ hx hy he
  simp (maxSteps := 1000000) only [VL,VM,↓VG,reduceIte,reduceCtorEq,zA,zB,zC,zD,zE,zF,zG,zH,zI,zJ, k2]
  ((repeat refine Ws ?_);refine Wt (by first|rfl|simp only [EV,zF,reduceIte]) ?_)
  ((repeat refine Ws ?_);refine W_skip ?_)
  simp (maxSteps := 1000000) only [VL,VM,↓VG,reduceIte,reduceCtorEq,zA,zB,zC,zD,zE,zF,zG,zH,zI,zJ]
  ((repeat refine Ws ?_);refine W_block ?_)
  (repeat refine Ws ?_)
  refine W_drawP T_ok [] (by kernel_rfl) (by kernel_rfl) ?_
  generalize hi : mkPlan _ = infs
  cbv at hi
  subst hi
  simp (maxSteps := 1000000) only [VL,VM,↓VG,reduceIte,reduceCtorEq,zA,zB,zC,zD,zE,zF,zG,zH,zI,zJ, hx', hy']
  apply call_d (f := 41) (fn := Tryd.f41) (by kernel_rfl) (by rfl)
  ·exact sameInts_v x y _ (hr x hmx)
  simp (maxSteps := 1000000) only [VL,VM,↓VG,reduceIte,reduceCtorEq,zA,zB,zC,zD,zE,zF,zG,zH,zI,zJ, hx', hy']
  ((repeat refine Ws ?_);refine Wr ?_)
  simp (maxSteps := 1000000) only [VL,VM,↓VG,reduceIte,reduceCtorEq,zA,zB,zC,zD,zE,zF,zG,zH,zI,zJ, k1]
  refine LoopK.mk (i + 1) (by omega) (by omega) ⟨rfl, rfl, ?_, rfl, trivial⟩ rfl
  rw [hs]; rfl
 have k2 : ((i : Int) < (a.length : Int)) = False := eq_false (by omega)
 simp (maxSteps := 1000000) only [VL,VM,↓VG,reduceIte,reduceCtorEq,zA,zB,zC,zD,zE,zF,zG,zH,zI,zJ, k2]
 ((repeat refine Ws ?_);refine Wf (by first|rfl|simp only [EV,zF,reduceIte]) ?_)
 ((repeat refine Ws ?_);refine W_exit ?_)
 simp (maxSteps := 1000000) only [VL,VM,↓VG,reduceIte,reduceCtorEq,zA,zB,zC,zD,zE,zF,zG,zH,zI,zJ]
 ((repeat refine Ws ?_);refine Wr ?_)
 simp (maxSteps := 1000000) only [VL,VM,↓VG,reduceIte,reduceCtorEq,zA,zB,zC,zD,zE,zF,zG,zH,zI,zJ]
 (repeat refine Ws ?_)
 refine W_ret ?_
 try simp only [thenQ, blockQ]
 refine own_ret10 rfl ?_ (by rfl)
 simp only [get_cons, frz, vtup, Nat.reduceEqDiff, if_true, if_false, reduceIte]
 have hi3 : i = a.length := by omega
 subst hi3
 rw [← eqTo_end, he]
end Go.Proofs.YtekhddlngbppkaaDoor.Vm
