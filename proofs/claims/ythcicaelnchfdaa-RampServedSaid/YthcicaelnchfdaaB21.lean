/- A part of the proofs about the chapter of the ramps; it states no condition of its own. -/
import Derived.Test.YthcicaelnchfdaaB15
import Derived.Test.YthcicaelnchfdaaB16
import Derived.Test.YthcicaelnchfdaaB20
set_option linter.unusedVariables false
set_option linter.unusedSimpArgs false
open Int renaming reduceLE → zA, reduceLT → zB, reduceToNat → zC, reduceNeg → zD
open Nat renaming reduceLT → zE, reduceEqDiff → zF, reduceAdd → zG, reduceSub → zH, reduceMul → zI, reduceLeDiff → zJ
/- The reference's Held, on values. (Vm) -/
namespace Go.Proofs.Ythcicaelnchfdaa.Vm
open Go Go.Proofs
end Go.Proofs.Ythcicaelnchfdaa.Vm

/- The reference's Longest, Shortest, Holds, Away, on values. (Vm) -/
namespace Go.Proofs.Ythcicaelnchfdaa.Vm
open Go Go.Proofs
def holdsV (y : Ya) (p : List St) : Int × Int := if plErr y p = 0 then (if heldB y p (longest y) then (1, 0) else if heldB y p (shortest y) then (3, 0) else (2, 0)) else (0, plErr y p)
theorem own_ret2 {T : Tab} {f : Nat} {fn : Func} {M : Mem} {L : List VObj} {e : Env} {t t' : Nat} {X Y : VV} (h1 : fn.results.toList = [.tmp t, .tmp t']) (hr : frz M.H.length (M.H ++ L) (get e t) = X) (hr' : frz M.H.length (M.H ++ L) (get e t') = Y) (h2 : refs X = []) (h2' : refs Y = []) : ownQ T f fn M (fun r M' => M' = M ∧ r = .tup [X, Y]) .ret e ⟨M.H ++ L, M.lg⟩ [] :=
 own_ret (vs := [get e t, get e t']) (by rw [h1]; rfl) (by simp only [vtup, frz, frzL, hr, hr']) (by simp [refs, refsL, h2, h2']) ⟨rfl, rfl⟩
end Go.Proofs.Ythcicaelnchfdaa.Vm

/- Away, Last, Before, on values. (Vm) -/
namespace Go.Proofs.Ythcicaelnchfdaa.Vm
open Go Go.Proofs
theorem awayL_len (y : Ya) (p : List St) : (awayL y p).length = min p.length y.carts.length := by simp [awayL]
theorem awayL_take {y : Ya} {p : List St} {i : Nat} (h : i < p.length) (h' : i < y.carts.length) : (awayL y p).take (i + 1) = (awayL y p).take i ++ [⟨(stAt p i).from_ + (ctAt y i).takes.lo, (stAt p i).from_ + (ctAt y i).takes.hi⟩] := by
 rw [List.take_add_one]
 congr 1
 have hz : (p.zip y.carts)[i]? = some (p[i], y.carts[i]) := by simp [List.getElem?_zip_eq_some, h, h']
 simp [awayL, stAt, ctAt, h, h', hz]
end Go.Proofs.Ythcicaelnchfdaa.Vm

/- Last, Before, on values. (Vm) -/
namespace Go.Proofs.Ythcicaelnchfdaa.Vm
open Go Go.Proofs
theorem last_v (y : Ya) (p : List St) (M : Mem) (hl : p.length ≤ 1000000) (hc : p.length ≤ y.carts.length) (hb : ∀ i, i < p.length → -1000000 ≤ (stAt p i).from_ + (ctAt y i).takes.hi ∧ (stAt p i).from_ + (ctAt y i).takes.hi ≤ 1000000) : VC Try.prog 40 [yardV y, stsV p] M (fun r M' => M' = M ∧ r = vi (lastV y p)) := by
 refine VC_own' T_ok (f := 40) (fn := Try.f40) (by kernel_rfl) rfl Try.ntmps40 (by rfl) (by rfl) ?_
 ((repeat refine Ws ?_);refine W_regionE T_ok ?_; intro Kn hKn)
 ((simp (maxSteps := 1000000) only [VL,VM,↓VG,reduceIte,reduceCtorEq,zA,zB,zC,zD,zE,zF,zG,zH,zI,zJ]); rw [hKn]; clear hKn; clear Kn; simp only [thenQ.eq_1, thenQ.eq_2, blockQ.eq_1, blockQ.eq_2, reduceIte, reduceCtorEq, Nat.reduceEqDiff])
 ((repeat refine Ws ?_);refine W_regionE T_ok ?_; intro Kn hKn)
 ((simp (maxSteps := 1000000) only [VL,VM,↓VG,reduceIte,reduceCtorEq,zA,zB,zC,zD,zE,zF,zG,zH,zI,zJ]); rw [hKn]; clear hKn; clear Kn; simp only [thenQ.eq_1, thenQ.eq_2, blockQ.eq_1, blockQ.eq_2, reduceIte, reduceCtorEq, Nat.reduceEqDiff])
 ((repeat refine Ws ?_);refine W_regionE T_ok ?_; intro Kn hKn)
 ((simp (maxSteps := 1000000) only [VL,VM,↓VG,reduceIte,reduceCtorEq,zA,zB,zC,zD,zE,zF,zG,zH,zI,zJ]); rw [hKn]; clear hKn; clear Kn; simp only [thenQ.eq_1, thenQ.eq_2, blockQ.eq_1, blockQ.eq_2, reduceIte, reduceCtorEq, Nat.reduceEqDiff])
 ((repeat refine Ws ?_);refine W_block ?_; (repeat refine Ws ?_)); refine W_loopS (fun i : Nat => [(1, stsV p), (2, .ptr M.H.length 0), (5, vi (((awayL y p).take i).foldl (fun m s => max m s.hi) 0)), (6, vi i)]) (fun i => ⟨M.H ++ [.obj (yardC y)], M.lg⟩) (fun i => p.length - i) (fun i => i ≤ p.length) 0 (Nat.zero_le _) ⟨rfl, rfl, rfl, rfl, trivial⟩ rfl ?_
 intro i hi
 have k1 : -9223372036854775808 ≤ (i : Int) + 1 ∧ (i : Int) + 1 < 9223372036854775808 := by omega
 ((repeat refine Ws ?_);refine W_regionE T_ok ?_; intro Kn hKn)
 rcases Nat.lt_or_ge i p.length with hlt | hge
 ·have k2 : ((i : Int) < (p.length : Int)) = True := eq_true (by omega)
  have hlt2 : i < y.carts.length := by omega
  have hx' := map_at (f := stP) (stAt_get hlt)
  have hy' := map_at (f := ctP) (ctAt_get hlt2)
  have hbi := hb i hlt
  have q2 : -9223372036854775808 ≤ (stAt p i).from_ + (ctAt y i).takes.hi ∧ (stAt p i).from_ + (ctAt y i).takes.hi < 9223372036854775808 := by omega
  have key := awayL_take hlt hlt2
  ((simp (maxSteps := 1000000) only [VL,VM,↓VG,reduceIte,reduceCtorEq,zA,zB,zC,zD,zE,zF,zG,zH,zI,zJ, k2]); rw [hKn]; clear hKn; clear Kn; simp only [thenQ.eq_1, thenQ.eq_2, blockQ.eq_1, blockQ.eq_2, reduceIte, reduceCtorEq, Nat.reduceEqDiff])
  ((repeat refine Ws ?_);refine Wt (by first|rfl|simp only [EV,zF,reduceIte]) ?_)
  (((repeat refine Ws ?_);refine W_skip ?_); simp only [thenQ.eq_1, thenQ.eq_2, blockQ.eq_1, blockQ.eq_2, reduceIte, reduceCtorEq, Nat.reduceEqDiff])
  ((repeat refine Ws ?_);refine W_block ?_)
  (repeat refine Ws ?_)
  refine W_drawE T_ok [] (by kernel_rfl) (by kernel_rfl) ?_
  intro Kn hKn
  generalize hi : mkPlan _ = infs
  cbv at hi
  subst hi
  ((simp (maxSteps := 1000000) only [VL,VM,↓VG,reduceIte,reduceCtorEq,zA,zB,zC,zD,zE,zF,zG,zH,zI,zJ, hx', hy', q2]); rw [hKn]; clear hKn; clear Kn; simp only [thenQ.eq_1, thenQ.eq_2, blockQ.eq_1, blockQ.eq_2, reduceIte, reduceCtorEq, Nat.reduceEqDiff])
  ((repeat refine Ws ?_);refine W_regionE T_ok ?_; intro Kn hKn)
  ((simp (maxSteps := 1000000) only [VL,VM,↓VG,reduceIte,reduceCtorEq,zA,zB,zC,zD,zE,zF,zG,zH,zI,zJ, k1]); rw [hKn]; clear hKn; clear Kn; simp only [thenQ.eq_1, thenQ.eq_2, blockQ.eq_1, blockQ.eq_2, reduceIte, reduceCtorEq, Nat.reduceEqDiff])
  refine LoopK.mk (i + 1) (by omega) (by omega) ⟨rfl, rfl, ?_, rfl, trivial⟩ rfl
  rw [key, List.foldl_append]; rfl
 ·have k2 : ((i : Int) < (p.length : Int)) = False := eq_false (by omega)
  obtain rfl : i = p.length := by omega
  ((simp (maxSteps := 1000000) only [VL,VM,↓VG,reduceIte,reduceCtorEq,zA,zB,zC,zD,zE,zF,zG,zH,zI,zJ, k2]); rw [hKn]; clear hKn; clear Kn; simp only [thenQ.eq_1, thenQ.eq_2, blockQ.eq_1, blockQ.eq_2, reduceIte, reduceCtorEq, Nat.reduceEqDiff])
  ((repeat refine Ws ?_);refine Wf (by first|rfl|simp only [EV,zF,reduceIte]) ?_)
  (((repeat refine Ws ?_);refine W_exit ?_); simp only [thenQ.eq_1, thenQ.eq_2, blockQ.eq_1, blockQ.eq_2, reduceIte, reduceCtorEq, Nat.reduceEqDiff])
  ((repeat refine Ws ?_);refine W_regionE T_ok ?_; intro Kn hKn)
  ((simp (maxSteps := 1000000) only [VL,VM,↓VG,reduceIte,reduceCtorEq,zA,zB,zC,zD,zE,zF,zG,zH,zI,zJ]); rw [hKn]; clear hKn; clear Kn; simp only [thenQ.eq_1, thenQ.eq_2, blockQ.eq_1, blockQ.eq_2, reduceIte, reduceCtorEq, Nat.reduceEqDiff])
  (repeat refine Ws ?_)
  refine W_ret ?_
  try simp only [thenQ, blockQ]
  refine own_ret1 rfl ?_ (by rfl)
  simp only [get_cons, frz, vtup, Nat.reduceEqDiff, if_true, if_false, reduceIte]
  rw [List.take_of_length_le (by rw [awayL_len]; omega)]
  rfl
end Go.Proofs.Ythcicaelnchfdaa.Vm
