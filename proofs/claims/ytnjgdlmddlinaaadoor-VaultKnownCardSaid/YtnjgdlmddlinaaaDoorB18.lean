/- A part of the proofs about the chapter of the vaults; it states no condition of its own. -/
import Derived.Test.YtnjgdlmddlinaaaDoorB17
set_option linter.unusedVariables false
set_option linter.unusedSimpArgs false
open Int renaming reduceLE → zA, reduceLT → zB, reduceToNat → zC, reduceNeg → zD
open Nat renaming reduceLT → zE, reduceEqDiff → zF, reduceAdd → zG, reduceSub → zH, reduceMul → zI, reduceLeDiff → zJ
/- The library's searches, on values, of puts and places. (Vm) -/
namespace Go.Proofs.YtnjgdlmddlinaaaDoor.Vm
open Go Go.Proofs
theorem indexputs_vm (fv : VV) (xs : List Pu) (p : Pu → Bool) (M : Mem) (hl : xs.length ≤ 1000000) (hf : ∀ x ∈ xs, VCall Tryd.prog fv [puV x] M (fun r M' => M' = M ∧ r = vb (p x))) :
  VC Tryd.prog 62 [pusV xs, fv] M (fun r M' => M' = M ∧ ∃ k : Int, r = vi k ∧ decide (0 ≤ k) = xs.any p) := by
 refine VC_own' T_ok (f := 62) (fn := Tryd.f62) (by kernel_rfl) rfl Tryd.ntmps62 (by rfl) (by rfl) ?_
 ((repeat refine Ws ?_);refine Wr ?_)
 simp (maxSteps := 1000000) only [VL,VM,↓VG,reduceIte,reduceCtorEq,zA,zB,zC,zD,zE,zF,zG,zH,zI,zJ]
 ((repeat refine Ws ?_);refine Wr ?_)
 simp (maxSteps := 1000000) only [VL,VM,↓VG,reduceIte,reduceCtorEq,zA,zB,zC,zD,zE,zF,zG,zH,zI,zJ]
 ((repeat refine Ws ?_);refine W_block ?_; (repeat refine Ws ?_)); refine W_loopS (fun i : Nat => [(0, pusV xs), (1, fv), (7, vi xs.length), (8, vi i)]) (fun _ => M) (fun i => xs.length - i) (fun i => i ≤ xs.length ∧ (xs.take i).any p = false) 0 ⟨by omega, by simp⟩ ⟨rfl, rfl, rfl, rfl, trivial⟩ rfl ?_
 rintro i ⟨hi, hno⟩
 have k1 : -9223372036854775808 ≤ (i : Int) + 1 ∧ (i : Int) + 1 < 9223372036854775808 := by omega
 ((repeat refine Ws ?_);refine Wr ?_)
 rcases Nat.lt_or_ge i xs.length with hlt | hge
 ·have k2 : ((i : Int) < (xs.length : Int)) = True := eq_true (by omega)
  have hx : xs[i]? = some xs[i] := List.getElem?_eq_getElem hlt
  have hx' := map_at (f := puP) hx
  simp (maxSteps := 1000000) only [VL,VM,↓VG,reduceIte,reduceCtorEq,zA,zB,zC,zD,zE,zF,zG,zH,zI,zJ, k1, k2, hx']
  ((repeat refine Ws ?_);refine Wt (by first|rfl|simp only [EV,zF,reduceIte]) ?_)
  ((repeat refine Ws ?_);refine W_skip ?_)
  simp (maxSteps := 1000000) only [VL,VM,↓VG,reduceIte,reduceCtorEq,zA,zB,zC,zD,zE,zF,zG,zH,zI,zJ]
  ((repeat refine Ws ?_);refine W_block ?_)
  ((repeat refine Ws ?_);refine Wr ?_)
  simp (maxSteps := 1000000) only [VL,VM,↓VG,reduceIte,reduceCtorEq,zA,zB,zC,zD,zE,zF,zG,zH,zI,zJ]
  ((repeat refine Ws ?_);refine Wr ?_)
  simp (maxSteps := 1000000) only [VL,VM,↓VG,reduceIte,reduceCtorEq,zA,zB,zC,zD,zE,zF,zG,zH,zI,zJ, hx']
  refine (hf _ (List.getElem_mem hlt)).mono ?_
  rintro _ _ ⟨rfl, rfl⟩
  simp (maxSteps := 1000000) only [VL,VM,↓VG,reduceIte,reduceCtorEq,zA,zB,zC,zD,zE,zF,zG,zH,zI,zJ]
  cases hp : p xs[i]
  ·((repeat refine Ws ?_);refine Wf (by first|rfl|simp only [EV,zF,reduceIte]) ?_)
   ((repeat refine Ws ?_);refine W_skip ?_)
   simp (maxSteps := 1000000) only [VL,VM,↓VG,reduceIte,reduceCtorEq,zA,zB,zC,zD,zE,zF,zG,zH,zI,zJ]
   ((repeat refine Ws ?_);refine Wr ?_)
   simp (maxSteps := 1000000) only [VL,VM,↓VG,reduceIte,reduceCtorEq,zA,zB,zC,zD,zE,zF,zG,zH,zI,zJ, k1]
   refine LoopK.mk (i + 1) (by omega) ⟨by omega, ?_⟩ ⟨rfl, rfl, rfl, rfl, trivial⟩ rfl
   rw [any_take p xs i _ hx, hno, hp]; rfl
  ·((repeat refine Ws ?_);refine Wt (by first|rfl|simp only [EV,zF,reduceIte]) ?_)
   ((repeat refine Ws ?_);refine Wr ?_)
   simp (maxSteps := 1000000) only [VL,VM,↓VG,reduceIte,reduceCtorEq,zA,zB,zC,zD,zE,zF,zG,zH,zI,zJ]
   (repeat refine Ws ?_)
   refine W_ret ?_
   try simp only [thenQ, blockQ]
   refine own_ret0 rfl rfl rfl ⟨rfl, (i : Int), rfl, ?_⟩
   rw [any_hit p xs i _ hx hp]; simp
 ·have k2 : ((i : Int) < (xs.length : Int)) = False := eq_false (by omega)
  simp (maxSteps := 1000000) only [VL,VM,↓VG,reduceIte,reduceCtorEq,zA,zB,zC,zD,zE,zF,zG,zH,zI,zJ, k1, k2]
  ((repeat refine Ws ?_);refine Wf (by first|rfl|simp only [EV,zF,reduceIte]) ?_)
  ((repeat refine Ws ?_);refine W_exit ?_)
  simp (maxSteps := 1000000) only [VL,VM,↓VG,reduceIte,reduceCtorEq,zA,zB,zC,zD,zE,zF,zG,zH,zI,zJ]
  ((repeat refine Ws ?_);refine Wr ?_)
  simp (maxSteps := 1000000) only [VL,VM,↓VG,reduceIte,reduceCtorEq,zA,zB,zC,zD,zE,zF,zG,zH,zI,zJ]
  (repeat refine Ws ?_)
  refine W_ret ?_
  try simp only [thenQ, blockQ]
  refine own_ret0 rfl rfl rfl ⟨rfl, -1, rfl, ?_⟩
  rw [List.take_of_length_le hge] at hno
  rw [hno]; rfl
theorem containsputs_vm (fv : VV) (xs : List Pu) (p : Pu → Bool) (M : Mem) (hl : xs.length ≤ 1000000) (hs : strip1 fv = fv) (hf : ∀ x ∈ xs, VCall Tryd.prog fv [puV x] M (fun r M' => M' = M ∧ r = vb (p x))) :
  VC Tryd.prog 56 [pusV xs, fv] M (fun r M' => M' = M ∧ r = vb (xs.any p)) := by
 refine VC_own' T_ok (f := 56) (fn := Tryd.f56) (by kernel_rfl) rfl Tryd.ntmps56 (by rfl) (by rfl) ?_
 ((repeat refine Ws ?_);refine Wr ?_)
 simp (maxSteps := 1000000) only [VL,VM,↓VG,reduceIte,reduceCtorEq,zA,zB,zC,zD,zE,zF,zG,zH,zI,zJ]
 ((repeat refine Ws ?_);refine Wr ?_)
 simp (maxSteps := 1000000) only [VL,VM,↓VG,reduceIte,reduceCtorEq,zA,zB,zC,zD,zE,zF,zG,zH,zI,zJ]
 refine fn_call (f := 62) (fn := Tryd.f62) (by kernel_rfl) (by rfl) ?_
 rw [show List.map strip1 [pusV xs, fv] = [pusV xs, fv] by rw [List.map_cons, List.map_cons, hs]; rfl]
 refine (indexputs_vm fv xs p M hl hf).mono ?_
 rintro _ _ ⟨rfl, k, rfl, hk⟩
 simp (maxSteps := 1000000) only [VL,VM,↓VG,reduceIte,reduceCtorEq,zA,zB,zC,zD,zE,zF,zG,zH,zI,zJ]
 (repeat refine Ws ?_)
 refine W_ret ?_
 try simp only [thenQ, blockQ]
 refine own_ret10 rfl ?_ (by rfl)
 simp only [get_cons, frz, vtup, Nat.reduceEqDiff, if_true, if_false, reduceIte]
 rw [hk]

theorem indexcells_vm (c : Pl) (xs : List Pl) (M : Mem) (hl : xs.length ≤ 1000000) :
  VC Tryd.prog 49 [plsV xs, plV c] M (fun r M' => M' = M ∧ ∃ k : Int, r = vi k ∧ decide (0 ≤ k) = xs.any (fun x => decide (c = x))) := by
 refine VC_own' T_ok (f := 49) (fn := Tryd.f49) (by kernel_rfl) rfl Tryd.ntmps49 (by rfl) (by rfl) ?_
 ((repeat refine Ws ?_);refine Wr ?_)
 simp (maxSteps := 1000000) only [VL,VM,↓VG,reduceIte,reduceCtorEq,zA,zB,zC,zD,zE,zF,zG,zH,zI,zJ]
 ((repeat refine Ws ?_);refine Wr ?_)
 simp (maxSteps := 1000000) only [VL,VM,↓VG,reduceIte,reduceCtorEq,zA,zB,zC,zD,zE,zF,zG,zH,zI,zJ]
 ((repeat refine Ws ?_);refine W_block ?_; (repeat refine Ws ?_)); refine W_loopS (fun i : Nat => [(0, plsV xs), (3, .ptr M.H.length 0), (7, vi xs.length), (8, vi i)]) (fun _ => ⟨M.H ++ [VObj.obj [vi c.x, vi c.y]], M.lg⟩) (fun i => xs.length - i) (fun i => i ≤ xs.length ∧ (xs.take i).any (fun x => decide (c = x)) = false) 0 ⟨by omega, by simp⟩ ⟨rfl, rfl, rfl, rfl, trivial⟩ rfl ?_
 rintro i ⟨hi, hno⟩
 have k1 : -9223372036854775808 ≤ (i : Int) + 1 ∧ (i : Int) + 1 < 9223372036854775808 := by omega
 ((repeat refine Ws ?_);refine Wr ?_)
 rcases Nat.lt_or_ge i xs.length with hlt | hge
 ·have k2 : ((i : Int) < (xs.length : Int)) = True := eq_true (by omega)
  have hx : xs[i]? = some xs[i] := List.getElem?_eq_getElem hlt
  have hx' := map_at (f := plP) hx
  generalize hd : xs[i] = d at hx hx'
  simp (maxSteps := 1000000) only [VL,VM,↓VG,reduceIte,reduceCtorEq,zA,zB,zC,zD,zE,zF,zG,zH,zI,zJ, k2]
  ((repeat refine Ws ?_);refine Wt (by first|rfl|simp only [EV,zF,reduceIte]) ?_)
  ((repeat refine Ws ?_);refine W_skip ?_)
  simp (maxSteps := 1000000) only [VL,VM,↓VG,reduceIte,reduceCtorEq,zA,zB,zC,zD,zE,zF,zG,zH,zI,zJ]
  ((repeat refine Ws ?_);refine W_block ?_)
  ((repeat refine Ws ?_);refine Wr ?_)
  simp (maxSteps := 1000000) only [VL,VM,↓VG,reduceIte,reduceCtorEq,zA,zB,zC,zD,zE,zF,zG,zH,zI,zJ]
  (repeat refine Ws ?_)
  refine W_drawP T_ok [] (by kernel_rfl) (by kernel_rfl) ?_
  generalize hi : mkPlan _ = infs
  cbv at hi
  subst hi
  simp (maxSteps := 1000000) only [VL,VM,↓VG,reduceIte,reduceCtorEq,zA,zB,zC,zD,zE,zF,zG,zH,zI,zJ, hx']
  cases hp : decide (c = d)
  ·((repeat refine Ws ?_);refine Wf (by first|rfl|simp only [EV,zF,reduceIte]) ?_)
   ((repeat refine Ws ?_);refine W_skip ?_)
   simp (maxSteps := 1000000) only [VL,VM,↓VG,reduceIte,reduceCtorEq,zA,zB,zC,zD,zE,zF,zG,zH,zI,zJ]
   ((repeat refine Ws ?_);refine Wr ?_)
   simp (maxSteps := 1000000) only [VL,VM,↓VG,reduceIte,reduceCtorEq,zA,zB,zC,zD,zE,zF,zG,zH,zI,zJ, k1]
   refine LoopK.mk (i + 1) (by omega) ⟨by omega, ?_⟩ ⟨rfl, rfl, rfl, rfl, trivial⟩ rfl
   rw [any_take _ xs i _ hx, hno, hp]; rfl
  ·((repeat refine Ws ?_);refine Wt (by first|rfl|simp only [EV,zF,reduceIte]) ?_)
   ((repeat refine Ws ?_);refine Wr ?_)
   simp (maxSteps := 1000000) only [VL,VM,↓VG,reduceIte,reduceCtorEq,zA,zB,zC,zD,zE,zF,zG,zH,zI,zJ]
   (repeat refine Ws ?_)
   refine W_ret ?_
   try simp only [thenQ, blockQ]
   refine own_ret rfl rfl rfl ⟨rfl, (i : Int), rfl, ?_⟩
   rw [any_hit _ xs i _ hx hp]; simp
 ·have k2 : ((i : Int) < (xs.length : Int)) = False := eq_false (by omega)
  simp (maxSteps := 1000000) only [VL,VM,↓VG,reduceIte,reduceCtorEq,zA,zB,zC,zD,zE,zF,zG,zH,zI,zJ, k1, k2]
  ((repeat refine Ws ?_);refine Wf (by first|rfl|simp only [EV,zF,reduceIte]) ?_)
  ((repeat refine Ws ?_);refine W_exit ?_)
  simp (maxSteps := 1000000) only [VL,VM,↓VG,reduceIte,reduceCtorEq,zA,zB,zC,zD,zE,zF,zG,zH,zI,zJ]
  ((repeat refine Ws ?_);refine Wr ?_)
  simp (maxSteps := 1000000) only [VL,VM,↓VG,reduceIte,reduceCtorEq,zA,zB,zC,zD,zE,zF,zG,zH,zI,zJ]
  (repeat refine Ws ?_)
  refine W_ret ?_
  try simp only [thenQ, blockQ]
  refine own_ret rfl rfl rfl ⟨rfl, -1, rfl, ?_⟩
  rw [List.take_of_length_le hge] at hno
  rw [hno]; rfl
theorem any_has (c : Pl) (xs : List Pl) : xs.any (fun x => decide (c = x)) = hasPl xs c := by
 unfold hasPl
 induction xs with
 | nil => rfl
 | cons x xs ih =>
  simp only [List.any_cons, List.contains_cons, ih]
  by_cases h : c = x <;> simp [h]
theorem containscells_vm (c : Pl) (xs : List Pl) (M : Mem) (hl : xs.length ≤ 1000000) :
  VC Tryd.prog 30 [plsV xs, plV c] M (fun r M' => M' = M ∧ r = vb (hasPl xs c)) := by
 refine VC_own' T_ok (f := 30) (fn := Tryd.f30) (by kernel_rfl) rfl Tryd.ntmps30 (by rfl) (by rfl) ?_
 ((repeat refine Ws ?_);refine Wr ?_)
 simp (maxSteps := 1000000) only [VL,VM,↓VG,reduceIte,reduceCtorEq,zA,zB,zC,zD,zE,zF,zG,zH,zI,zJ]
 ((repeat refine Ws ?_);refine Wr ?_)
 simp (maxSteps := 1000000) only [VL,VM,↓VG,reduceIte,reduceCtorEq,zA,zB,zC,zD,zE,zF,zG,zH,zI,zJ]
 refine fn_call (f := 49) (fn := Tryd.f49) (by kernel_rfl) (by rfl) ?_
 refine (indexcells_vm c xs _ hl).mono ?_
 rintro _ _ ⟨rfl, k, rfl, hk⟩
 simp (maxSteps := 1000000) only [VL,VM,↓VG,reduceIte,reduceCtorEq,zA,zB,zC,zD,zE,zF,zG,zH,zI,zJ]
 (repeat refine Ws ?_)
 refine W_ret ?_
 try simp only [thenQ, blockQ]
 refine own_ret1 rfl ?_ (by rfl)
 simp only [get_cons, frz, vtup, Nat.reduceEqDiff, if_true, if_false, reduceIte]
 rw [hk, any_has]
end Go.Proofs.YtnjgdlmddlinaaaDoor.Vm

/- The program's rules of layouts, on values. (Vm) -/
namespace Go.Proofs.YtnjgdlmddlinaaaDoor.Vm
open Go Go.Proofs
abbrev layC (h : Ha) (b : List Pu) (p : Pu) : List VV := [vi h.wide, vi h.deep, plsV h.water, plsV h.shut, vi h.bay.x, vi h.bay.y, intsV h.bears, kisV h.kinds, pusV b, vi p.pl.x, vi p.pl.y, vi p.kind]
abbrev hallC (h : Ha) : List VV := [vi h.wide, vi h.deep, plsV h.water, plsV h.shut, vi h.bay.x, vi h.bay.y, intsV h.bears, kisV h.kinds]
theorem stands_vm (h : Ha) (b : List Pu) (p : Pu) (i : Nat) (M : Mem) (V : VH h) (hm : M.H[i]? = some (.obj (layC h b p))) : VC Tryd.prog 42 [.ptr i 0] M (fun r M' => M' = M ∧ r = vi (if isPl h p.pl then 0 else 3)) := by
 have hS := V.small
 refine VC_own' T_ok (f := 42) (fn := Tryd.f42) (by kernel_rfl) rfl Tryd.ntmps42 (by rfl) (by rfl) ?_
 ((repeat refine Ws ?_);refine Wr ?_)
 simp (maxSteps := 1000000) only [VL,VM,↓VG,reduceIte,reduceCtorEq,zA,zB,zC,zD,zE,zF,zG,zH,zI,zJ]
 (repeat refine Ws ?_)
 refine W_drawP T_ok [] (by kernel_rfl) (by kernel_rfl) ?_
 generalize hi : mkPlan _ = infs
 cbv at hi
 subst hi
 simp (maxSteps := 1000000) only [VL,VM,↓VG,reduceIte,reduceCtorEq,zA,zB,zC,zD,zE,zF,zG,zH,zI,zJ, hm]
 apply call_d (f := 38) (fn := Tryd.f38) (by kernel_rfl) (by rfl)
 ·exact place_vm h p.pl _ hS.w1 hS.w2 hS.d1 hS.d2
 simp (maxSteps := 1000000) only [VL,VM,↓VG,reduceIte,reduceCtorEq,zA,zB,zC,zD,zE,zF,zG,zH,zI,zJ, hm]
 apply call_d (f := 55) (fn := Tryd.f55) (by kernel_rfl) (by rfl)
 ·exact unless_vm _ _ _
 simp (maxSteps := 1000000) only [VL,VM,↓VG,reduceIte,reduceCtorEq,zA,zB,zC,zD,zE,zF,zG,zH,zI,zJ]
 (repeat refine Ws ?_)
 refine W_ret ?_
 try simp only [thenQ, blockQ]
 refine own_ret10 rfl ?_ (by rfl)
 simp only [get_cons, frz, vtup, Nat.reduceEqDiff, if_true, if_false, reduceIte]
theorem open_vm (h : Ha) (b : List Pu) (p : Pu) (i : Nat) (M : Mem) (V : VH h) (hm : M.H[i]? = some (.obj (layC h b p))) : VC Tryd.prog 43 [.ptr i 0] M (fun r M' => M' = M ∧ r = vi (if hasPl h.shut p.pl then 11 else 0)) := by
 refine VC_own' T_ok (f := 43) (fn := Tryd.f43) (by kernel_rfl) rfl Tryd.ntmps43 (by rfl) (by rfl) ?_
 ((repeat refine Ws ?_);refine Wr ?_)
 simp (maxSteps := 1000000) only [VL,VM,↓VG,reduceIte,reduceCtorEq,zA,zB,zC,zD,zE,zF,zG,zH,zI,zJ]
 (repeat refine Ws ?_)
 refine W_drawP T_ok [] (by kernel_rfl) (by kernel_rfl) ?_
 generalize hi : mkPlan _ = infs
 cbv at hi
 subst hi
 simp (maxSteps := 1000000) only [VL,VM,↓VG,reduceIte,reduceCtorEq,zA,zB,zC,zD,zE,zF,zG,zH,zI,zJ, hm]
 apply call_d (f := 30) (fn := Tryd.f30) (by kernel_rfl) (by rfl)
 ·exact containscells_vm p.pl h.shut _ (V.shut_len)
 simp (maxSteps := 1000000) only [VL,VM,↓VG,reduceIte,reduceCtorEq,zA,zB,zC,zD,zE,zF,zG,zH,zI,zJ, hm]
 apply call_d (f := 55) (fn := Tryd.f55) (by kernel_rfl) (by rfl)
 ·exact unless_vm _ _ _
 simp (maxSteps := 1000000) only [VL,VM,↓VG,reduceIte,reduceCtorEq,zA,zB,zC,zD,zE,zF,zG,zH,zI,zJ]
 (repeat refine Ws ?_)
 refine W_ret ?_
 try simp only [thenQ, blockQ]
 refine own_ret10 rfl ?_ (by rfl)
 simp only [get_cons, frz, vtup, Nat.reduceEqDiff, if_true, if_false, reduceIte]
 cases hasPl h.shut p.pl <;> rfl
theorem kindr_vm (h : Ha) (b : List Pu) (p : Pu) (i : Nat) (M : Mem) (V : VH h) (hm : M.H[i]? = some (.obj (layC h b p))) : VC Tryd.prog 44 [.ptr i 0] M (fun r M' => M' = M ∧ r = vi (if isKind h p.kind then 0 else 8)) := by
 have := V.kinds6
 have k1 : -9223372036854775808 ≤ (h.kinds.length : Int) - 1 ∧ (h.kinds.length : Int) - 1 < 9223372036854775808 := by omega
 refine VC_own' T_ok (f := 44) (fn := Tryd.f44) (by kernel_rfl) rfl Tryd.ntmps44 (by rfl) (by rfl) ?_
 ((repeat refine Ws ?_);refine Wr ?_)
 simp (maxSteps := 1000000) only [VL,VM,↓VG,reduceIte,reduceCtorEq,zA,zB,zC,zD,zE,zF,zG,zH,zI,zJ]
 (repeat refine Ws ?_)
 refine W_drawP T_ok [] (by kernel_rfl) (by kernel_rfl) ?_
 generalize hi : mkPlan _ = infs
 cbv at hi
 subst hi
 simp (maxSteps := 1000000) only [VL,VM,↓VG,reduceIte,reduceCtorEq,zA,zB,zC,zD,zE,zF,zG,zH,zI,zJ, hm, k1]
 apply call_d (f := 20) (fn := Tryd.f20) (by kernel_rfl) (by rfl)
 ·exact in_vm _ _ _ _
 simp (maxSteps := 1000000) only [VL,VM,↓VG,reduceIte,reduceCtorEq,zA,zB,zC,zD,zE,zF,zG,zH,zI,zJ, hm]
 apply call_d (f := 55) (fn := Tryd.f55) (by kernel_rfl) (by rfl)
 ·exact unless_vm _ _ _
 simp (maxSteps := 1000000) only [VL,VM,↓VG,reduceIte,reduceCtorEq,zA,zB,zC,zD,zE,zF,zG,zH,zI,zJ]
 (repeat refine Ws ?_)
 refine W_ret ?_
 try simp only [thenQ, blockQ]
 refine own_ret10 rfl ?_ (by rfl)
 simp only [get_cons, frz, vtup, Nat.reduceEqDiff, if_true, if_false, reduceIte]
 rfl
theorem freec_vm (h : Ha) (b : List Pu) (p q : Pu) (i j : Nat) (M : Mem) (hm : M.H[i]? = some (.obj (layC h b p))) (hj : M.H[j]? = some (.obj [.ptr i 0])) : VC Tryd.prog 57 [puV q, .ptr j 0] M (fun r M' => M' = M ∧ r = vb (decide (q.pl = p.pl))) := by
 have hm' := app_get hm
 have hj' := app_get hj
 refine VC_own' T_ok (f := 57) (fn := Tryd.f57) (by kernel_rfl) rfl Tryd.ntmps57 (by rfl) (by rfl) ?_
 ((repeat refine Ws ?_);refine Wr ?_)
 simp (maxSteps := 1000000) only [VL,VM,↓VG,reduceIte,reduceCtorEq,zA,zB,zC,zD,zE,zF,zG,zH,zI,zJ]
 (repeat refine Ws ?_)
 refine W_drawP T_ok [] (by kernel_rfl) (by kernel_rfl) ?_
 generalize hi : mkPlan _ = infs
 cbv at hi
 subst hi
 simp (maxSteps := 1000000) only [VL,VM,↓VG,reduceIte,reduceCtorEq,zA,zB,zC,zD,zE,zF,zG,zH,zI,zJ, hm', hj']
 (repeat refine Ws ?_)
 refine W_ret ?_
 try simp only [thenQ, blockQ]
 refine own_ret1 rfl ?_ (by rfl)
 simp only [get_cons, frz, vtup, Nat.reduceEqDiff, if_true, if_false, reduceIte]
theorem freec_call (h : Ha) (b : List Pu) (p q : Pu) (i j : Nat) (M : Mem) (hm : M.H[i]? = some (.obj (layC h b p))) (hj : M.H[j]? = some (.obj [.ptr i 0])) : VCall Tryd.prog (.fn (.func 57) [] [.ptr j 0]) [puV q] M (fun r M' => M' = M ∧ r = vb (decide (q.pl = p.pl))) :=
 VCall_fn T_ok (f := 57) (fn := Tryd.f57) (by kernel_rfl) (freec_vm h b p q i j M hm hj)
theorem free_vm (h : Ha) (b : List Pu) (p : Pu) (i : Nat) (M : Mem) (hl : b.length ≤ 1000000) (hm : M.H[i]? = some (.obj (layC h b p))) : VC Tryd.prog 45 [.ptr i 0] M (fun r M' => M' = M ∧ r = vi (if b.any (fun o => decide (o.pl = p.pl)) then 4 else 0)) := by
 have hm' := app_get hm
 refine VC_own' T_ok (f := 45) (fn := Tryd.f45) (by kernel_rfl) rfl Tryd.ntmps45 (by rfl) (by rfl) ?_
 ((repeat refine Ws ?_);refine Wr ?_)
 simp (maxSteps := 1000000) only [VL,VM,↓VG,reduceIte,reduceCtorEq,zA,zB,zC,zD,zE,zF,zG,zH,zI,zJ]
 ((repeat refine Ws ?_);refine Wr ?_)
 simp (maxSteps := 1000000) only [VL,VM,↓VG,reduceIte,reduceCtorEq,zA,zB,zC,zD,zE,zF,zG,zH,zI,zJ, hm']
 apply call_eq (f := 56) (fn := Tryd.f56) (by kernel_rfl) (by rfl)
 ·exact containsputs_vm _ b (fun o => decide (o.pl = p.pl)) _ hl rfl (fun x _ => freec_call h b p x i M.H.length _ (hm' _) (hget0 _ _))
 simp (maxSteps := 1000000) only [VL,VM,↓VG,reduceIte,reduceCtorEq,zA,zB,zC,zD,zE,zF,zG,zH,zI,zJ]
 apply call_eq (f := 55) (fn := Tryd.f55) (by kernel_rfl) (by rfl)
 ·exact unless_vm _ _ _
 simp (maxSteps := 1000000) only [VL,VM,↓VG,reduceIte,reduceCtorEq,zA,zB,zC,zD,zE,zF,zG,zH,zI,zJ]
 (repeat refine Ws ?_)
 refine W_ret ?_
 try simp only [thenQ, blockQ]
 refine own_ret1 rfl ?_ (by rfl)
 simp only [get_cons, frz, vtup, Nat.reduceEqDiff, if_true, if_false, reduceIte]
 cases b.any (fun o => decide (o.pl = p.pl)) <;> rfl
theorem wet_vm (h : Ha) (b : List Pu) (p : Pu) (i : Nat) (M : Mem) (V : VH h) (g : isKind h p.kind = true) (hm : M.H[i]? = some (.obj (layC h b p))) : VC Tryd.prog 46 [.ptr i 0] M (fun r M' => M' = M ∧ r = vi (if (kAt h p.kind).water && !hasPl h.water p.pl then 7 else 0)) := by
 have hk : 0 ≤ p.kind ∧ p.kind < h.kinds.length := by rw [isKind, inR_true] at g; omega
 have k1 : 0 ≤ p.kind := hk.1
 have hlt : p.kind.toNat < h.kinds.length := by omega
 have hx : h.kinds[p.kind.toNat]? = some (kAt h p.kind) := by simp [kAt, hlt]
 have hx' := map_at (f := kiP) hx
 refine VC_own' T_ok (f := 46) (fn := Tryd.f46) (by kernel_rfl) rfl Tryd.ntmps46 (by rfl) (by rfl) ?_
 ((repeat refine Ws ?_);refine Wr ?_)
 simp (maxSteps := 1000000) only [VL,VM,↓VG,reduceIte,reduceCtorEq,zA,zB,zC,zD,zE,zF,zG,zH,zI,zJ]
 (repeat refine Ws ?_)
 refine W_drawP T_ok [] (by kernel_rfl) (by kernel_rfl) ?_
 generalize hi : mkPlan _ = infs
 cbv at hi
 subst hi
 cases hw : (kAt h p.kind).water
 ·simp (maxSteps := 1000000) only [VL,VM,↓VG,reduceIte,reduceCtorEq,zA,zB,zC,zD,zE,zF,zG,zH,zI,zJ, hm, k1, hx', hw]
  apply call_d (f := 55) (fn := Tryd.f55) (by kernel_rfl) (by rfl)
  ·exact unless_vm _ _ _
  simp (maxSteps := 1000000) only [VL,VM,↓VG,reduceIte,reduceCtorEq,zA,zB,zC,zD,zE,zF,zG,zH,zI,zJ, hm, k1, hx', hw]
  (repeat refine Ws ?_)
  refine W_ret ?_
  try simp only [thenQ, blockQ]
  refine own_ret10 rfl ?_ (by rfl)
  simp only [get_cons, frz, vtup, Nat.reduceEqDiff, if_true, if_false, reduceIte]
 ·simp (maxSteps := 1000000) only [VL,VM,↓VG,reduceIte,reduceCtorEq,zA,zB,zC,zD,zE,zF,zG,zH,zI,zJ, hm, k1, hx', hw]
  apply call_d (f := 30) (fn := Tryd.f30) (by kernel_rfl) (by rfl)
  ·exact containscells_vm p.pl h.water _ (V.water_len)
  simp (maxSteps := 1000000) only [VL,VM,↓VG,reduceIte,reduceCtorEq,zA,zB,zC,zD,zE,zF,zG,zH,zI,zJ, hm, k1, hx', hw]
  apply call_d (f := 55) (fn := Tryd.f55) (by kernel_rfl) (by rfl)
  ·exact unless_vm _ _ _
  simp (maxSteps := 1000000) only [VL,VM,↓VG,reduceIte,reduceCtorEq,zA,zB,zC,zD,zE,zF,zG,zH,zI,zJ, hm, k1, hx', hw]
  (repeat refine Ws ?_)
  refine W_ret ?_
  try simp only [thenQ, blockQ]
  refine own_ret10 rfl ?_ (by rfl)
  simp only [get_cons, frz, vtup, Nat.reduceEqDiff, if_true, if_false, reduceIte]
  cases hasPl h.water p.pl <;> rfl
end Go.Proofs.YtnjgdlmddlinaaaDoor.Vm

/- The program's distances of stalls, on values. (Vm) -/
namespace Go.Proofs.YtnjgdlmddlinaaaDoor.Vm
open Go Go.Proofs
theorem kAt_some {h : Ha} {n : Int} (h0 : 0 ≤ n) (h1 : n < h.kinds.length) : h.kinds[n.toNat]? = some (kAt h n) := by
 have hlt : n.toNat < h.kinds.length := by omega
 simp [kAt, hlt]
theorem kAt_VK {h : Ha} (V : VH h) {n : Int} (h0 : 0 ≤ n) (h1 : n < h.kinds.length) : VK h (kAt h n) := V.kind _ (List.mem_of_getElem? (kAt_some h0 h1))
theorem awAt_some {h : Ha} (V : VH h) {n m : Int} (h0 : 0 ≤ n) (h1 : n < h.kinds.length) (g0 : 0 ≤ m) (g1 : m < h.kinds.length) : (kAt h n).away[m.toNat]? = some (awAt (kAt h n) m) := by
 have := (kAt_VK V h0 h1).away
 have hlt : m.toNat < (kAt h n).away.length := by omega
 simp [awAt, hlt]
theorem apart_vm (h : Ha) (a b : Pu) (M : Mem) (V : VH h) (ga : GoodP h a) (gb : GoodP h b) : VC Tryd.prog 59 [hallV h, puV a, puV b] M (fun r M' => M' = M ∧ r = vb (!clash h a b)) := by
 obtain ⟨a1, a2, a3, a4, a5, a6⟩ := ga.bounds V
 obtain ⟨b1, b2, b3, b4, b5, b6⟩ := gb.bounds V
 have ka := map_at (f := kiP) (kAt_some a5 a6)
 have kb := map_at (f := kiP) (kAt_some b5 b6)
 have wa := map_at (f := intP) (awAt_some V a5 a6 b5 b6)
 have wb := map_at (f := intP) (awAt_some V b5 b6 a5 a6)
 refine VC_own' T_ok (f := 59) (fn := Tryd.f59) (by kernel_rfl) rfl Tryd.ntmps59 (by rfl) (by rfl) ?_
 ((repeat refine Ws ?_);refine Wr ?_)
 simp (maxSteps := 1000000) only [VL,VM,↓VG,reduceIte,reduceCtorEq,zA,zB,zC,zD,zE,zF,zG,zH,zI,zJ]
 (repeat refine Ws ?_)
 refine W_drawP T_ok [] (by kernel_rfl) (by kernel_rfl) ?_
 generalize hi : mkPlan _ = infs
 cbv at hi
 subst hi
 simp (maxSteps := 1000000) only [VL,VM,↓VG,reduceIte,reduceCtorEq,zA,zB,zC,zD,zE,zF,zG,zH,zI,zJ]
 apply call_d (f := 63) (fn := Tryd.f63) (by kernel_rfl) (by rfl)
 ·exact far_vm a.pl b.pl _ a1 (by omega) a3 (by omega) b1 (by omega) b3 (by omega)
 simp (maxSteps := 1000000) only [VL,VM,↓VG,reduceIte,reduceCtorEq,zA,zB,zC,zD,zE,zF,zG,zH,zI,zJ, a5, b5, ka, kb, wa, wb]
 (repeat refine Ws ?_)
 refine W_ret ?_
 try simp only [thenQ, blockQ]
 refine own_ret1 rfl ?_ (by rfl)
 simp only [get_cons, frz, vtup, Nat.reduceEqDiff, if_true, if_false, reduceIte]
 congr 2
 unfold clash
 rw [Int.max_comm, ← decide_not]
 congr 1
 exact propext (by omega)
theorem alonec_vm (h : Ha) (b : List Pu) (p q : Pu) (i j : Nat) (M : Mem) (V : VH h) (gq : GoodP h q) (gp : GoodP h p) (hm : M.H[i]? = some (.obj (layC h b p))) (hj : M.H[j]? = some (.obj [.ptr i 0])) : VC Tryd.prog 58 [puV q, .ptr j 0] M (fun r M' => M' = M ∧ r = vb (clash h q p)) := by
 have hm' := app_get hm
 have hj' := app_get hj
 refine VC_own' T_ok (f := 58) (fn := Tryd.f58) (by kernel_rfl) rfl Tryd.ntmps58 (by rfl) (by rfl) ?_
 ((repeat refine Ws ?_);refine Wr ?_)
 simp (maxSteps := 1000000) only [VL,VM,↓VG,reduceIte,reduceCtorEq,zA,zB,zC,zD,zE,zF,zG,zH,zI,zJ]
 (repeat refine Ws ?_)
 refine W_drawP T_ok [] (by kernel_rfl) (by kernel_rfl) ?_
 generalize hi : mkPlan _ = infs
 cbv at hi
 subst hi
 simp (maxSteps := 1000000) only [VL,VM,↓VG,reduceIte,reduceCtorEq,zA,zB,zC,zD,zE,zF,zG,zH,zI,zJ, hm', hj']
 apply call_d (f := 59) (fn := Tryd.f59) (by kernel_rfl) (by rfl)
 ·exact apart_vm h q p _ V gq gp
 simp (maxSteps := 1000000) only [VL,VM,↓VG,reduceIte,reduceCtorEq,zA,zB,zC,zD,zE,zF,zG,zH,zI,zJ]
 (repeat refine Ws ?_)
 refine W_ret ?_
 try simp only [thenQ, blockQ]
 refine own_ret1 rfl ?_ (by rfl)
 simp only [get_cons, frz, vtup, Nat.reduceEqDiff, if_true, if_false, reduceIte]
 simp
theorem alonec_call (h : Ha) (b : List Pu) (p q : Pu) (i j : Nat) (M : Mem) (V : VH h) (gq : GoodP h q) (gp : GoodP h p) (hm : M.H[i]? = some (.obj (layC h b p))) (hj : M.H[j]? = some (.obj [.ptr i 0])) : VCall Tryd.prog (.fn (.func 58) [] [.ptr j 0]) [puV q] M (fun r M' => M' = M ∧ r = vb (clash h q p)) :=
 VCall_fn T_ok (f := 58) (fn := Tryd.f58) (by kernel_rfl) (alonec_vm h b p q i j M V gq gp hm hj)
theorem alone_vm (h : Ha) (b : List Pu) (p : Pu) (i : Nat) (M : Mem) (V : VH h) (gb : ∀ q ∈ b, GoodP h q) (gp : GoodP h p) (hl : b.length ≤ 1000000) (hm : M.H[i]? = some (.obj (layC h b p))) : VC Tryd.prog 47 [.ptr i 0] M (fun r M' => M' = M ∧ r = vi (if b.any (fun o => clash h o p) then 9 else 0)) := by
 have hm' := app_get hm
 refine VC_own' T_ok (f := 47) (fn := Tryd.f47) (by kernel_rfl) rfl Tryd.ntmps47 (by rfl) (by rfl) ?_
 ((repeat refine Ws ?_);refine Wr ?_)
 simp (maxSteps := 1000000) only [VL,VM,↓VG,reduceIte,reduceCtorEq,zA,zB,zC,zD,zE,zF,zG,zH,zI,zJ]
 ((repeat refine Ws ?_);refine Wr ?_)
 simp (maxSteps := 1000000) only [VL,VM,↓VG,reduceIte,reduceCtorEq,zA,zB,zC,zD,zE,zF,zG,zH,zI,zJ, hm']
 apply call_eq (f := 56) (fn := Tryd.f56) (by kernel_rfl) (by rfl)
 ·exact containsputs_vm _ b (fun o => clash h o p) _ hl rfl (fun x hx => alonec_call h b p x i M.H.length _ V (gb x hx) gp (hm' _) (hget0 _ _))
 simp (maxSteps := 1000000) only [VL,VM,↓VG,reduceIte,reduceCtorEq,zA,zB,zC,zD,zE,zF,zG,zH,zI,zJ]
 apply call_eq (f := 55) (fn := Tryd.f55) (by kernel_rfl) (by rfl)
 ·exact unless_vm _ _ _
 simp (maxSteps := 1000000) only [VL,VM,↓VG,reduceIte,reduceCtorEq,zA,zB,zC,zD,zE,zF,zG,zH,zI,zJ]
 (repeat refine Ws ?_)
 refine W_ret ?_
 try simp only [thenQ, blockQ]
 refine own_ret1 rfl ?_ (by rfl)
 simp only [get_cons, frz, vtup, Nat.reduceEqDiff, if_true, if_false, reduceIte]
 cases b.any (fun o => clash h o p) <;> rfl
end Go.Proofs.YtnjgdlmddlinaaaDoor.Vm

/- The program's check of layouts, on values. (Vm) -/
namespace Go.Proofs.YtnjgdlmddlinaaaDoor.Vm
open Go Go.Proofs
def ruleErr (h : Ha) (b : List Pu) (p : Pu) : Nat → Int
 | 0 => if isPl h p.pl then 0 else 3
 | 1 => if hasPl h.shut p.pl then 11 else 0
 | 2 => if isKind h p.kind then 0 else 8
 | 3 => if b.any (fun o => decide (o.pl = p.pl)) then 4 else 0
 | 4 => if (kAt h p.kind).water && !hasPl h.water p.pl then 7 else 0
 | _ => if b.any (fun o => clash h o p) then 9 else 0
theorem rule_hit {h : Ha} {b : List Pu} {p : Pu} {j : Nat} (hj : j < 6) (h0 : ∀ r, r < j → ruleErr h b p r = 0) (h1 : ruleErr h b p j ≠ 0) : putErr h b p = ruleErr h b p j := by
 have e0 := h0 0
 have e1 := h0 1
 have e2 := h0 2
 have e3 := h0 3
 have e4 := h0 4
 unfold putErr
 match j, hj with
 | 0, _ => simp only [ruleErr] at *; clear h0; generalize b.any (fun o => decide (o.pl = p.pl)) = q3 at *; generalize b.any (fun o => clash h o p) = q5 at *; generalize ((kAt h p.kind).water && !hasPl h.water p.pl) = q4 at *; simp_all
 | 1, _ => simp only [ruleErr] at *; clear h0; generalize b.any (fun o => decide (o.pl = p.pl)) = q3 at *; generalize b.any (fun o => clash h o p) = q5 at *; generalize ((kAt h p.kind).water && !hasPl h.water p.pl) = q4 at *; simp_all
 | 2, _ => simp only [ruleErr] at *; clear h0; generalize b.any (fun o => decide (o.pl = p.pl)) = q3 at *; generalize b.any (fun o => clash h o p) = q5 at *; generalize ((kAt h p.kind).water && !hasPl h.water p.pl) = q4 at *; simp_all
 | 3, _ => simp only [ruleErr] at *; clear h0; generalize b.any (fun o => decide (o.pl = p.pl)) = q3 at *; generalize b.any (fun o => clash h o p) = q5 at *; generalize ((kAt h p.kind).water && !hasPl h.water p.pl) = q4 at *; simp_all
 | 4, _ => simp only [ruleErr] at *; clear h0; generalize b.any (fun o => decide (o.pl = p.pl)) = q3 at *; generalize b.any (fun o => clash h o p) = q5 at *; generalize ((kAt h p.kind).water && !hasPl h.water p.pl) = q4 at *; simp_all
 | 5, _ => simp only [ruleErr] at *; clear h0; generalize b.any (fun o => decide (o.pl = p.pl)) = q3 at *; generalize b.any (fun o => clash h o p) = q5 at *; generalize ((kAt h p.kind).water && !hasPl h.water p.pl) = q4 at *; simp_all
theorem rule_ok {h : Ha} {b : List Pu} {p : Pu} (h0 : ∀ r, r < 6 → ruleErr h b p r = 0) : putErr h b p = 0 := by
 have e0 := h0 0 (by omega)
 have e1 := h0 1 (by omega)
 have e2 := h0 2 (by omega)
 have e3 := h0 3 (by omega)
 have e4 := h0 4 (by omega)
 have e5 := h0 5 (by omega)
 unfold putErr
 simp only [ruleErr] at *
 clear h0; generalize b.any (fun o => decide (o.pl = p.pl)) = q3 at *; generalize b.any (fun o => clash h o p) = q5 at *; generalize ((kAt h p.kind).water && !hasPl h.water p.pl) = q4 at *
 simp_all
abbrev ruleF (i j : Nat) : VV := .fn (.func (42 + j)) [.ptr i 0] []
theorem rule_call (h : Ha) (b : List Pu) (p : Pu) (i : Nat) (M : Mem) (V : VH h) (gb : ∀ q ∈ b, GoodP h q) (hl : b.length ≤ 1000000) (hm : M.H[i]? = some (.obj (layC h b p))) (j : Nat) (hj : j < 6) (h0 : ∀ r, r < j → ruleErr h b p r = 0) :
  VCall Tryd.prog (ruleF i j) [] M (fun r M' => M' = M ∧ r = vi (ruleErr h b p j)) := by
 have gp : 2 < j → GoodP h p := fun h2 => by
  have e0 := h0 0 (by omega)
  have e2 := h0 2 (by omega)
  simp only [ruleErr] at e0 e2
  constructor
  ·cases hq : isPl h p.pl
   ·rw [hq] at e0; exact absurd e0 (by decide)
   ·rfl
  ·cases hq : isKind h p.kind
   ·rw [hq] at e2; exact absurd e2 (by decide)
   ·rfl
 match j, hj with
 | 0, _ => exact VCall_fn T_ok (fn := Tryd.f42) (by kernel_rfl) (stands_vm h b p i M V hm)
 | 1, _ => exact VCall_fn T_ok (fn := Tryd.f43) (by kernel_rfl) (open_vm h b p i M V hm)
 | 2, _ => exact VCall_fn T_ok (fn := Tryd.f44) (by kernel_rfl) (kindr_vm h b p i M V hm)
 | 3, _ => exact VCall_fn T_ok (fn := Tryd.f45) (by kernel_rfl) (free_vm h b p i M hl hm)
 | 4, _ => exact VCall_fn T_ok (fn := Tryd.f46) (by kernel_rfl) (wet_vm h b p i M V (gp (by omega)).2 hm)
 | 5, _ => exact VCall_fn T_ok (fn := Tryd.f47) (by kernel_rfl) (alone_vm h b p i M V gb (gp (by omega)) hl hm)
end Go.Proofs.YtnjgdlmddlinaaaDoor.Vm

/- The program's check of layouts, on values, part 2. (Vm) -/
namespace Go.Proofs.YtnjgdlmddlinaaaDoor.Vm
open Go Go.Proofs
def rulesL (i : Nat) : List (List VV) := [[ruleF i 0], [ruleF i 1], [ruleF i 2], [ruleF i 3], [ruleF i 4], [ruleF i 5]]
theorem rulesL_at (i j : Nat) (hj : j < 6) : (rulesL i)[j]? = some [ruleF i j] := by
 match j, hj with
 | 0, _ => rfl
 | 1, _ => rfl
 | 2, _ => rfl
 | 3, _ => rfl
 | 4, _ => rfl
 | 5, _ => rfl
theorem good_takes {h : Ha} {l : List Pu} {k : Nat} (e : firstErr (putErrAt h l) k = 0) (hk : k ≤ l.length) : ∀ o ∈ l.take k, GoodP h o := by
 intro o ho
 obtain ⟨i, hi, rfl⟩ := List.getElem_of_mem ho
 rw [List.length_take] at hi
 rw [firstErr_zero] at e
 have h1 := e i (by omega)
 have h2 : i < l.length := by omega
 simp only [putErrAt, List.getElem?_eq_getElem h2] at h1
 rw [List.getElem_take]
 exact GoodP.of h1
def cnt (l : List Pu) (n : Int) : Nat := (l.filter fun p => p.kind = n).length
def Cnt (es : List (List Int × VV)) (l : List Pu) : Prop := ∀ n : Int, (cnt l n = 0 ∧ assoc [n] es = none) ∨ assoc [n] es = some (vi (cnt l n))
theorem Cnt.nil : Cnt [] [] := fun n => .inl ⟨rfl, rfl⟩
theorem cnt_add (l : List Pu) (p : Pu) (n : Int) : cnt (l ++ [p]) n = cnt l n + if p.kind = n then 1 else 0 := by
 unfold cnt
 rw [List.filter_append, List.length_append]
 by_cases h : p.kind = n <;> simp [h]
theorem Cnt.add {es : List (List Int × VV)} {l : List Pu} (h : Cnt es l) (p : Pu) : Cnt (assocSet [p.kind] (vi (cnt l p.kind + 1)) es) (l ++ [p]) := fun n => by
 rw [assoc_set, cnt_add]
 by_cases e : p.kind = n
 ·subst e
  exact .inr (by simp)
 ·rw [if_neg e, if_neg (show ¬ [p.kind] = [n] by simpa using e)]
  exact h n
theorem cnt_le (l : List Pu) (n : Int) : cnt l n ≤ l.length := List.length_filter_le _ _
theorem cnt_take (l : List Pu) (n : Int) (i : Nat) : cnt (l.take i) n ≤ cnt l n := by
 conv => rhs; rw [← List.take_append_drop i l]
 unfold cnt
 rw [List.filter_append, List.length_append]
 omega
theorem over_none {h : Ha} {l : List Pu} (V : VH h) (hno : ∀ i (x : Pu), l[i]? = some x → (cnt (l.take (i + 1)) x.kind : Int) ≤ (kAt h x.kind).most) : firstErr (overAt h l) h.kinds.length = 0 := by
 rw [firstErr_zero]
 intro k hk
 unfold overAt
 rw [List.getElem?_eq_getElem hk]
 simp only
 refine if_neg (Int.not_lt.2 ?_)
 have hka : kAt h (k : Int) = h.kinds[k] := by simp [kAt, hk]
 have key : ∀ n, n ≤ l.length → (cnt (l.take n) (k : Int) : Int) ≤ h.kinds[k].most := by
  intro n
  induction n with
  | zero =>
   intro _
   have := (V.kind _ (List.getElem_mem hk)).most0
   simpa [cnt] using this
  | succ n ih =>
   intro hn
   have hx : l[n]? = some l[n] := List.getElem?_eq_getElem (by omega)
   have h1 := hno n _ hx
   have h2 := ih (by omega)
   by_cases e : l[n].kind = (k : Int)
   ·rw [e, hka] at h1; exact h1
   ·rw [List.take_add_one, hx, Option.toList, cnt_add, if_neg e]
    exact h2
 have := key l.length (Nat.le_refl _)
 rw [List.take_length] at this
 exact this
theorem over_hit {h : Ha} {l : List Pu} {i : Nat} {x : Pu} (hx : l[i]? = some x) (gx : GoodP h x) (hov : (kAt h x.kind).most < (cnt (l.take (i + 1)) x.kind : Int)) : firstErr (overAt h l) h.kinds.length = 13 := by
 have hk := gx.2
 rw [isKind, inR_true] at hk
 have hlt : x.kind.toNat < h.kinds.length := by omega
 have hxk : ((x.kind.toNat : Nat) : Int) = x.kind := by omega
 have h13 : ∀ k, overAt h l k = 0 ∨ overAt h l k = 13 := fun k => by
  unfold overAt
  split
  ·split
   ·exact .inr rfl
   ·exact .inl rfl
  ·exact .inl rfl
 have hhit : overAt h l x.kind.toNat = 13 := by
  unfold overAt
  rw [List.getElem?_eq_getElem hlt]
  simp only
  refine if_pos ?_
  have : kAt h x.kind = h.kinds[x.kind.toNat] := by simp [kAt, hlt]
  rw [this] at hov
  have hc := cnt_take l x.kind (i + 1)
  unfold manyOf
  rw [hxk]
  unfold cnt at hov hc
  omega
 have : ∀ n, firstErr (overAt h l) n = 0 ∨ firstErr (overAt h l) n = 13 := by
  intro n
  induction n with
  | zero => exact .inl rfl
  | succ n ih =>
   unfold firstErr
   split
   ·exact ih
   ·exact h13 n
 rcases this h.kinds.length with h0 | h0
 ·rw [firstErr_zero] at h0
  have := h0 _ hlt
  omega
 ·exact h0
end Go.Proofs.YtnjgdlmddlinaaaDoor.Vm
