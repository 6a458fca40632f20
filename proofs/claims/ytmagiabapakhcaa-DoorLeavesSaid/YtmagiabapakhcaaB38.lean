/- A part of the proofs about the chapter of the doors; it states no condition of its own. -/
import Derived.Test.YtmagiabapakhcaaB27
import Derived.Test.YtmagiabapakhcaaB29
import Derived.Test.YtmagiabapakhcaaB34
import Derived.Test.YtmagiabapakhcaaB35
import Derived.Test.YtmagiabapakhcaaB37
set_option linter.unusedVariables false
set_option linter.unusedSimpArgs false
open Int renaming reduceLE → zA, reduceLT → zB, reduceToNat → zC, reduceNeg → zD
open Nat renaming reduceLT → zE, reduceEqDiff → zF, reduceAdd → zG, reduceSub → zH, reduceMul → zI, reduceLeDiff → zJ
/- The reference: who may be inside, on values. (Vm) -/
-- TABLE TE
namespace Go.Proofs.Ytmagiabapakhcaa.Vm
open Go Go.Proofs
end Go.Proofs.Ytmagiabapakhcaa.Vm

/- The reference: Inside, on values. (Vm) -/
namespace Go.Proofs.Ytmagiabapakhcaa.Vm
open Go Go.Proofs
end Go.Proofs.Ytmagiabapakhcaa.Vm

/- Houses and kitchens that are copied, and compared with what they were copied from, on values. (Vm) -/
namespace Go.Proofs.Ytmagiabapakhcaa.Vm
open Go Go.Proofs
theorem copyInts_v (xs : List Int) (M : Mem) (hl : xs.length ≤ 1000000) : VC Try.prog 31 [intsV xs] M (fun r M' => M' = M ∧ r = intsV xs) := by
 have q1 : (xs.length * 8 ≤ 140737488355328) = True := eq_true (by omega)
 refine VC_own' T_ok (f := 31) (fn := Try.f31) (by kernel_rfl) rfl Try.ntmps31 (by rfl) (by rfl) ?_
 ((repeat refine Ws ?_);refine Wr ?_)
 simp (maxSteps := 1000000) only [VL,VM,↓VG,reduceIte,reduceCtorEq,zA,zB,zC,zD,zE,zF,zG,zH,zI,zJ]
 ((repeat refine Ws ?_);refine Wr ?_)
 simp (maxSteps := 1000000) only [VL,VM,↓VG,reduceIte,reduceCtorEq,zA,zB,zC,zD,zE,zF,zG,zH,zI,zJ, q1]
 (repeat refine Ws ?_)
 refine W_ret ?_
 try simp only [thenQ, blockQ]
 refine own_ret1 rfl ?_ (by rfl)
 simp only [get_cons, frz, vtup, Nat.reduceEqDiff, if_true, if_false, reduceIte]
theorem copyHouse_v (h : Ho) (M : Mem) (hm : h.holds.length ≤ 1000000) (hg : h.doors.length ≤ 1000000) (hc : h.counts.length ≤ 1000000) : VC Try.prog 21 [houseV h] M (fun r M' => M' = M ∧ r = houseV h) := by
 have q1 : (h.doors.length * 24 ≤ 140737488355328) = True := eq_true (by omega)
 have q2 : (h.counts.length * 48 ≤ 140737488355328) = True := eq_true (by omega)
 refine VC_own' T_ok (f := 21) (fn := Try.f21) (by kernel_rfl) rfl Try.ntmps21 (by rfl) (by rfl) ?_
 ((repeat refine Ws ?_);refine Wr ?_)
 simp (maxSteps := 1000000) only [VL,VM,↓VG,reduceIte,reduceCtorEq,zA,zB,zC,zD,zE,zF,zG,zH,zI,zJ]
 (repeat refine Ws ?_)
 refine W_drawP T_ok [] (by kernel_rfl) (by kernel_rfl) ?_
 generalize hi : mkPlan _ = infs
 cbv at hi
 subst hi
 simp (maxSteps := 1000000) only [VL,VM,↓VG,reduceIte,reduceCtorEq,zA,zB,zC,zD,zE,zF,zG,zH,zI,zJ, q1, q2]
 apply call_d (f := 31) (fn := Try.f31) (by kernel_rfl) (by rfl)
 ·exact copyInts_v h.holds _ hm
 simp (maxSteps := 1000000) only [VL,VM,↓VG,reduceIte,reduceCtorEq,zA,zB,zC,zD,zE,zF,zG,zH,zI,zJ, q1, q2]
 ((repeat refine Ws ?_);refine Wr ?_)
 simp (maxSteps := 1000000) only [VL,VM,↓VG,reduceIte,reduceCtorEq,zA,zB,zC,zD,zE,zF,zG,zH,zI,zJ]
 (repeat refine Ws ?_)
 refine W_ret ?_
 try simp only [thenQ, blockQ]
 obtain ⟨X1, h1, g1⟩ := addLg_Y M.H.length [M.H.length + 2] M.lg
 obtain ⟨X2, h2, g2⟩ := addLg_Y M.H.length [M.H.length + 3] (addLg M.H.length [M.H.length + 2] M.lg)
 refine ⟨.inr (by trivial), by trivial, ⟨X1 ++ X2, by rw [h2, h1, List.append_assoc], fun e he => ?_⟩, M.H, _, rfl, rfl, [houseV h], ?_, houseV h, by rfl, by simp [refs, refsL], rfl, rfl⟩
 ·rcases List.mem_append.1 he with he | he
  ·have := (g1 e he).1; omega
  ·have := (g2 e he).1; omega
 simp [Try.f21, vresL, vload, t_house, get_cons, hget, hget0, nat_ble, strip1]
theorem sameHouse_v (h : Ho) (M : Mem) (hm : h.holds.length ≤ 1000000) (hg : h.doors.length ≤ 1000000) (hc : h.counts.length ≤ 1000000) : VC Try.prog 27 [houseV h, houseV h] M (fun r M' => M' = M ∧ r = vb true) := by
 refine VC_own' T_ok (f := 27) (fn := Try.f27) (by kernel_rfl) rfl Try.ntmps27 (by rfl) (by rfl) ?_
 ((repeat refine Ws ?_);refine Wr ?_)
 simp (maxSteps := 1000000) only [VL,VM,↓VG,reduceIte,reduceCtorEq,zA,zB,zC,zD,zE,zF,zG,zH,zI,zJ]
 ((repeat refine Ws ?_);refine Wr ?_)
 simp (maxSteps := 1000000) only [VL,VM,↓VG,reduceIte,reduceCtorEq,zA,zB,zC,zD,zE,zF,zG,zH,zI,zJ]
 apply call_eq (f := 34) (fn := Try.f34) (by kernel_rfl) (by rfl)
 ·exact sameInts_v h.holds h.holds _ hm
 have es : vbin T .eql 25 (spV h.first) (spV h.first) = some (vb true) := by rw [v_eqSpan]; simp
 simp (maxSteps := 1000000) only [VL,VM,↓VG,reduceIte,reduceCtorEq,zA,zB,zC,zD,zE,zF,zG,zH,zI,zJ, es]
 ((repeat refine Ws ?_);refine Wr ?_)
 simp (maxSteps := 1000000) only [VL,VM,↓VG,reduceIte,reduceCtorEq,zA,zB,zC,zD,zE,zF,zG,zH,zI,zJ]
 ((repeat refine Ws ?_);refine W_block ?_; (repeat refine Ws ?_)); refine W_loopS (fun i : Nat => [(2, .ptr M.H.length 0), (3, .ptr (M.H.length + 1) 0), (5, vb true), (6, vi i)]) (fun _ => ⟨M.H ++ [.obj (houseC h), .obj (houseC h)], M.lg⟩) (fun i => h.doors.length - i) (fun i => i ≤ h.doors.length) 0 (Nat.zero_le _) ⟨rfl, rfl, rfl, rfl, trivial⟩ rfl ?_
 intro i hi
 have k1 : -9223372036854775808 ≤ (i : Int) + 1 ∧ (i : Int) + 1 < 9223372036854775808 := by omega
 ((repeat refine Ws ?_);refine Wr ?_)
 rcases Nat.lt_or_ge i h.doors.length with hlt | hge
 ·have k2 : ((i : Int) < (h.doors.length : Int)) = True := eq_true (by omega)
  have hx : h.doors[i]? = some h.doors[i] := List.getElem?_eq_getElem hlt
  generalize h.doors[i] = x at hx
  have hx' := map_at (f := doP) hx
  have es : vbin T .eql 79 (doV x) (doV x) = some (vb true) := by rw [v_eqDoor]; simp
  simp (maxSteps := 1000000) only [VL,VM,↓VG,reduceIte,reduceCtorEq,zA,zB,zC,zD,zE,zF,zG,zH,zI,zJ, k2]
  ((repeat refine Ws ?_);refine Wt (by first|rfl|simp only [EV,zF,reduceIte]) ?_)
  ((repeat refine Ws ?_);refine W_skip ?_)
  simp (maxSteps := 1000000) only [VL,VM,↓VG,reduceIte,reduceCtorEq,zA,zB,zC,zD,zE,zF,zG,zH,zI,zJ]
  ((repeat refine Ws ?_);refine W_block ?_)
  (repeat refine Ws ?_)
  refine W_drawP T_ok [] (by kernel_rfl) (by kernel_rfl) ?_
  generalize hi : mkPlan _ = infs
  cbv at hi
  subst hi
  simp (maxSteps := 1000000) only [VL,VM,↓VG,reduceIte,reduceCtorEq,zA,zB,zC,zD,zE,zF,zG,zH,zI,zJ, hx', es]
  ((repeat refine Ws ?_);refine Wr ?_)
  simp (maxSteps := 1000000) only [VL,VM,↓VG,reduceIte,reduceCtorEq,zA,zB,zC,zD,zE,zF,zG,zH,zI,zJ, k1]
  exact LoopK.mk (i + 1) (by omega) (by omega) ⟨rfl, rfl, rfl, rfl, trivial⟩ rfl
 have k2 : ((i : Int) < (h.doors.length : Int)) = False := eq_false (by omega)
 simp (maxSteps := 1000000) only [VL,VM,↓VG,reduceIte,reduceCtorEq,zA,zB,zC,zD,zE,zF,zG,zH,zI,zJ, k2]
 ((repeat refine Ws ?_);refine Wf (by first|rfl|simp only [EV,zF,reduceIte]) ?_)
 ((repeat refine Ws ?_);refine W_exit ?_)
 simp (maxSteps := 1000000) only [VL,VM,↓VG,reduceIte,reduceCtorEq,zA,zB,zC,zD,zE,zF,zG,zH,zI,zJ]
 clear hge k2 k1 hi
 ((repeat refine Ws ?_);refine Wr ?_)
 simp (maxSteps := 1000000) only [VL,VM,↓VG,reduceIte,reduceCtorEq,zA,zB,zC,zD,zE,zF,zG,zH,zI,zJ]
 ((repeat refine Ws ?_);refine W_block ?_; (repeat refine Ws ?_)); refine W_loopS (fun i : Nat => [(2, .ptr M.H.length 0), (3, .ptr (M.H.length + 1) 0), (5, vb true), (7, vi i)]) (fun _ => ⟨M.H ++ [.obj (houseC h), .obj (houseC h)], M.lg⟩) (fun i => h.counts.length - i) (fun i => i ≤ h.counts.length) 0 (Nat.zero_le _) ⟨rfl, rfl, rfl, rfl, trivial⟩ rfl ?_
 intro i hi
 have k1 : -9223372036854775808 ≤ (i : Int) + 1 ∧ (i : Int) + 1 < 9223372036854775808 := by omega
 ((repeat refine Ws ?_);refine Wr ?_)
 rcases Nat.lt_or_ge i h.counts.length with hlt | hge
 ·have k2 : ((i : Int) < (h.counts.length : Int)) = True := eq_true (by omega)
  have hx : h.counts[i]? = some h.counts[i] := List.getElem?_eq_getElem hlt
  generalize h.counts[i] = x at hx
  have hx' := map_at (f := coP) hx
  have es : vbin T .eql 30 (coV x) (coV x) = some (vb true) := by rw [v_eqCount]; simp
  simp (maxSteps := 1000000) only [VL,VM,↓VG,reduceIte,reduceCtorEq,zA,zB,zC,zD,zE,zF,zG,zH,zI,zJ, k2]
  ((repeat refine Ws ?_);refine Wt (by first|rfl|simp only [EV,zF,reduceIte]) ?_)
  ((repeat refine Ws ?_);refine W_skip ?_)
  simp (maxSteps := 1000000) only [VL,VM,↓VG,reduceIte,reduceCtorEq,zA,zB,zC,zD,zE,zF,zG,zH,zI,zJ]
  ((repeat refine Ws ?_);refine W_block ?_)
  (repeat refine Ws ?_)
  refine W_drawP T_ok [] (by kernel_rfl) (by kernel_rfl) ?_
  generalize hi : mkPlan _ = infs
  cbv at hi
  subst hi
  simp (maxSteps := 1000000) only [VL,VM,↓VG,reduceIte,reduceCtorEq,zA,zB,zC,zD,zE,zF,zG,zH,zI,zJ, hx', es]
  ((repeat refine Ws ?_);refine Wr ?_)
  simp (maxSteps := 1000000) only [VL,VM,↓VG,reduceIte,reduceCtorEq,zA,zB,zC,zD,zE,zF,zG,zH,zI,zJ, k1]
  exact LoopK.mk (i + 1) (by omega) (by omega) ⟨rfl, rfl, rfl, rfl, trivial⟩ rfl
 have k2 : ((i : Int) < (h.counts.length : Int)) = False := eq_false (by omega)
 simp (maxSteps := 1000000) only [VL,VM,↓VG,reduceIte,reduceCtorEq,zA,zB,zC,zD,zE,zF,zG,zH,zI,zJ, k2]
 ((repeat refine Ws ?_);refine Wf (by first|rfl|simp only [EV,zF,reduceIte]) ?_)
 ((repeat refine Ws ?_);refine W_exit ?_)
 simp (maxSteps := 1000000) only [VL,VM,↓VG,reduceIte,reduceCtorEq,zA,zB,zC,zD,zE,zF,zG,zH,zI,zJ]
 ((repeat refine Ws ?_);refine Wr ?_)
 simp (maxSteps := 1000000) only [VL,VM,↓VG,reduceIte,reduceCtorEq,zA,zB,zC,zD,zE,zF,zG,zH,zI,zJ]
 (repeat refine Ws ?_)
 refine W_ret ?_
 try simp only [thenQ, blockQ]
 refine own_ret (vs := [vb true]) rfl ?_ (by rfl) ⟨rfl, rfl⟩
 rfl
end Go.Proofs.Ytmagiabapakhcaa.Vm

/- A cell of an object that is known in another way; slices that others lead to, and that grow. (Vm) -/
namespace Go.Proofs.Ytmagiabapakhcaa.Vm
open Go Go.Proofs
section
variable {P : Program} {T : Tab} {cx : Cx} {e : Env} {M : Mem} {D : List Nat} {Q : PQ} {c : Code}
end
end Go.Proofs.Ytmagiabapakhcaa.Vm

/- The law of who may be inside, on values. (Vm) -/
namespace Go.Proofs.Ytmagiabapakhcaa.Vm
open Go Go.Proofs
abbrev housePP (h : Ho) : List PV := [.sl 1 (h.holds.map intP), .sl 3 (h.doors.map doP), .int .i64 h.first.lo, .int .i64 h.first.hi, .int .i64 h.ticks, .sl 6 (h.counts.map coP)]
def vastB (h : Ho) : Bool := decide (12 < h.holds.length) || decide (12 < h.doors.length) || decide (40 < h.counts.length)
theorem not_vast {h : Ho} (hv : vastB h = false) : h.holds.length ≤ 12 ∧ h.doors.length ≤ 12 ∧ h.counts.length ≤ 40 := by
 simp only [vastB, Bool.or_eq_false_iff, decide_eq_false_iff_not] at hv
 omega
theorem vast_v (h : Ho) (M : Mem) : VC Try.prog 17 [houseV h] M (fun r M' => M' = M ∧ r = vb (vastB h)) := by
 refine VC_own' T_ok (f := 17) (fn := Try.f17) (by kernel_rfl) rfl Try.ntmps17 (by rfl) (by rfl) ?_
 ((repeat refine Ws ?_);refine Wr ?_)
 simp (maxSteps := 1000000) only [VL,VM,↓VG,reduceIte,reduceCtorEq,zA,zB,zC,zD,zE,zF,zG,zH,zI,zJ]
 ((repeat refine Ws ?_);refine Wr ?_)
 by_cases a1 : 12 < h.holds.length
 ·have k1 : ((12 : Int) < (h.holds.length : Int)) = True := eq_true (by omega)
  have e : vastB h = true := by simp [vastB, a1]
  simp (maxSteps := 1000000) only [VL,VM,↓VG,reduceIte,reduceCtorEq,zA,zB,zC,zD,zE,zF,zG,zH,zI,zJ, k1]
  (repeat refine Ws ?_)
  refine W_ret ?_
  try simp only [thenQ, blockQ]
  refine own_ret1 rfl ?_ (by rfl)
  simp only [get_cons, frz, vtup, Nat.reduceEqDiff, if_true, if_false, reduceIte]
  rw [e]
 have k1 : ((12 : Int) < (h.holds.length : Int)) = False := eq_false (by omega)
 by_cases a2 : 12 < h.doors.length
 ·have k2 : ((12 : Int) < (h.doors.length : Int)) = True := eq_true (by omega)
  have e : vastB h = true := by simp [vastB, a2]
  simp (maxSteps := 1000000) only [VL,VM,↓VG,reduceIte,reduceCtorEq,zA,zB,zC,zD,zE,zF,zG,zH,zI,zJ, k1, k2]
  (repeat refine Ws ?_)
  refine W_ret ?_
  try simp only [thenQ, blockQ]
  refine own_ret1 rfl ?_ (by rfl)
  simp only [get_cons, frz, vtup, Nat.reduceEqDiff, if_true, if_false, reduceIte]
  rw [e]
 have k2 : ((12 : Int) < (h.doors.length : Int)) = False := eq_false (by omega)
 by_cases a3 : 40 < h.counts.length
 ·have k3 : ((40 : Int) < (h.counts.length : Int)) = True := eq_true (by omega)
  have e : vastB h = true := by simp [vastB, a3]
  simp (maxSteps := 1000000) only [VL,VM,↓VG,reduceIte,reduceCtorEq,zA,zB,zC,zD,zE,zF,zG,zH,zI,zJ, k1, k2, k3]
  (repeat refine Ws ?_)
  refine W_ret ?_
  try simp only [thenQ, blockQ]
  refine own_ret1 rfl ?_ (by rfl)
  simp only [get_cons, frz, vtup, Nat.reduceEqDiff, if_true, if_false, reduceIte]
  rw [e]
 have k3 : ((40 : Int) < (h.counts.length : Int)) = False := eq_false (by omega)
 have e : vastB h = false := by simp [vastB, a1, a2, a3]
 simp (maxSteps := 1000000) only [VL,VM,↓VG,reduceIte,reduceCtorEq,zA,zB,zC,zD,zE,zF,zG,zH,zI,zJ, k1, k2, k3]
 (repeat refine Ws ?_)
 refine W_ret ?_
 try simp only [thenQ, blockQ]
 refine own_ret1 rfl ?_ (by rfl)
 simp only [get_cons, frz, vtup, Nat.reduceEqDiff, if_true, if_false, reduceIte]
 rw [e]
structure JSt where
 i : Nat
 junk : List VObj
end Go.Proofs.Ytmagiabapakhcaa.Vm
