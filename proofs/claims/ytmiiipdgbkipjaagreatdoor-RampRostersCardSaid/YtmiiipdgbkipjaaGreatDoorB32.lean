/- A part of the proofs about the chapter of the ramps; it states no condition of its own. -/
import Derived.Test.YtmiiipdgbkipjaaGreatDoorB20
import Derived.Test.YtmiiipdgbkipjaaGreatDoorB31
set_option linter.unusedVariables false
set_option linter.unusedSimpArgs false
open Int renaming reduceLE → zA, reduceLT → zB, reduceToNat → zC, reduceNeg → zD
open Nat renaming reduceLT → zE, reduceEqDiff → zF, reduceAdd → zG, reduceSub → zH, reduceMul → zI, reduceLeDiff → zJ
/- The reference's split, on values. (Vm) -/
namespace Go.Proofs.YtmiiipdgbkipjaaGreatDoor.Vm
open Go Go.Proofs
structure SplS where
 i : Nat
 fr : Nat
 dn : List By
theorem u8_inj {a b : UInt8} : (a.toNat = b.toNat) ↔ a = b := ⟨fun h => UInt8.toNat_inj.1 h, fun h => by rw [h]⟩
theorem no_drop {c : UInt8} {s : By} {fr i : Nat} (h1 : fr ≤ i) (hi : i < s.length) (h : c ∉ (s.take i).drop fr) (hx : s[i] ≠ c) : c ∉ (s.take (i + 1)).drop fr := by
 rw [List.take_succ_eq_append_getElem hi, List.drop_append_of_le_length (by rw [List.length_take]; omega)]
 intro hm
 rcases List.mem_append.1 hm with hm | hm
 ·exact h hm
 ·exact hx (List.mem_singleton.1 hm).symm
theorem rsplit_v (c : UInt8) (s : By) (M : Mem) (hs : s.length ≤ 1000000) : VC Tryz.prog 38 [vs s, su c.toNat] M (fun r M' => M' = M ∧ r = strsW (cutL c s)) := by
 refine VC_own' T_ok (f := 38) (fn := Tryz.f38) (by kernel_rfl) rfl Tryz.ntmps38 (by rfl) (by rfl) ?_
 ((repeat refine Ws ?_);refine W_regionE T_ok ?_; intro Kn hKn)
 ((simp (maxSteps := 1000000) only [VL,VM,↓VG,reduceIte,reduceCtorEq,zA,zB,zC,zD,zE,zF,zG,zH,zI,zJ]); rw [hKn];clear hKn Kn;simp only [QV,reduceIte,reduceCtorEq,Nat.reduceEqDiff])
 ((repeat refine Ws ?_);refine W_regionE T_ok ?_; intro Kn hKn)
 ((simp (maxSteps := 1000000) only [VL,VM,↓VG,reduceIte,reduceCtorEq,zA,zB,zC,zD,zE,zF,zG,zH,zI,zJ]); rw [hKn];clear hKn Kn;simp only [QV,reduceIte,reduceCtorEq,Nat.reduceEqDiff])
 ((repeat refine Ws ?_);refine W_regionE T_ok ?_; intro Kn hKn)
 ((simp (maxSteps := 1000000) only [VL,VM,↓VG,reduceIte,reduceCtorEq,zA,zB,zC,zD,zE,zF,zG,zH,zI,zJ]); rw [hKn];clear hKn Kn;simp only [QV,reduceIte,reduceCtorEq,Nat.reduceEqDiff])
 (repeat refine Ws ?_)
 refine W_tok (t := 5) (k := 1) rfl ?_
 ((repeat refine Ws ?_);refine W_regionE T_ok ?_; intro Kn hKn)
 ((simp (maxSteps := 1000000) only [VL,VM,↓VG,reduceIte,reduceCtorEq,zA,zB,zC,zD,zE,zF,zG,zH,zI,zJ]); rw [hKn];clear hKn Kn;simp only [QV,reduceIte,reduceCtorEq,Nat.reduceEqDiff])
 ((repeat refine Ws ?_);refine W_block ?_; (repeat refine Ws ?_)); refine W_loopS (fun z : SplS => [(0, vs s), (1, su c.toNat), (5, .so M.H.length 1 (strsV z.dn)), (6, vi z.fr), (7, vi z.i)]) (fun z => ⟨M.H ++ [.clm z.dn.length 1], M.lg⟩) (fun z => s.length + 1 - z.i) (fun z => z.dn.length ≤ z.i ∧ ((z.i ≤ s.length ∧ z.fr ≤ z.i ∧ cutL c s = z.dn ++ cutL c (s.drop z.fr) ∧ c ∉ (s.take z.i).drop z.fr) ∨ (z.i = s.length + 1 ∧ z.dn = cutL c s))) ⟨0, 0, []⟩ ⟨Nat.zero_le _, .inl ⟨Nat.zero_le _, Nat.le_refl _, rfl, by simp⟩⟩ ⟨rfl, rfl, rfl, rfl, rfl, trivial⟩ (by simp) ?_
 rintro ⟨i, fr, dn⟩ ⟨hd, hI⟩
 simp only at hd hI
 have k1 : -9223372036854775808 ≤ (i : Int) + 1 ∧ (i : Int) + 1 < 9223372036854775808 := by omega
 rcases hI with ⟨hi, hf, hcut, hno⟩ | ⟨hi, hdn⟩
 rotate_left
 ·have k2 : ((i : Int) ≤ (s.length : Int)) = False := eq_false (by omega)
  ((repeat refine Ws ?_);refine W_regionE T_ok ?_; intro Kn hKn)
  ((simp (maxSteps := 1000000) only [VL,VM,↓VG,reduceIte,reduceCtorEq,zA,zB,zC,zD,zE,zF,zG,zH,zI,zJ, tx_size, k2]); rw [hKn];clear hKn Kn;simp only [QV,reduceIte,reduceCtorEq,Nat.reduceEqDiff])
  ((repeat refine Ws ?_);refine Wf (by first|rfl|simp only [EV,zF,reduceIte]) ?_)
  (((repeat refine Ws ?_);refine W_exit ?_); simp only [QV,reduceIte,reduceCtorEq,Nat.reduceEqDiff])
  ((repeat refine Ws ?_);refine W_regionE T_ok ?_; intro Kn hKn)
  ((simp (maxSteps := 1000000) only [VL,VM,↓VG,reduceIte,reduceCtorEq,zA,zB,zC,zD,zE,zF,zG,zH,zI,zJ]); rw [hKn];clear hKn Kn;simp only [QV,reduceIte,reduceCtorEq,Nat.reduceEqDiff])
  (repeat refine Ws ?_)
  refine W_ret ?_
  try simp only [thenQ, blockQ]
  refine own_ret1 rfl ?_ (by rfl)
  simp only [get_cons, frz, vtup, Nat.reduceEqDiff, if_true, if_false, reduceIte]
  rw [hdn]
 have k2 : ((i : Int) ≤ (s.length : Int)) = True := eq_true (by omega)
 have q1 : ((dn.length + 1) * 16 ≤ 140737488355328) = True := eq_true (by omega)
 have hlen : (strsV dn).length = dn.length := strs_len dn
 rcases Nat.lt_or_ge i s.length with hlt | hge
 ·have k3 : ((i : Int) = (s.length : Int)) = False := eq_false (by omega)
  have hx : (tx s)[i]? = some s[i] := by rw [tx_get, List.getElem?_eq_getElem hlt]
  by_cases hc : s[i] = c
  ·have k4 : (s[i].toNat = c.toNat) = True := eq_true (by rw [hc])
   have k5 : (i ≤ s.length) = True := eq_true (by omega)
   have k6 : (fr ≤ i) = True := eq_true hf
   have hst := cut_step c hf (by rw [List.getElem?_eq_getElem hlt, hc]) hno
   ((repeat refine Ws ?_);refine W_regionE T_ok ?_; intro Kn hKn)
   ((simp (maxSteps := 1000000) only [VL,VM,↓VG,reduceIte,reduceCtorEq,zA,zB,zC,zD,zE,zF,zG,zH,zI,zJ, tx_size, k2]); rw [hKn];clear hKn Kn;simp only [QV,reduceIte,reduceCtorEq,Nat.reduceEqDiff])
   ((repeat refine Ws ?_);refine Wt (by first|rfl|simp only [EV,zF,reduceIte]) ?_)
   (((repeat refine Ws ?_);refine W_skip ?_); simp only [QV,reduceIte,reduceCtorEq,Nat.reduceEqDiff])
   ((repeat refine Ws ?_);refine W_block ?_)
   ((repeat refine Ws ?_);refine W_regionE T_ok ?_; intro Kn hKn)
   ((simp (maxSteps := 1000000) only [VL,VM,↓VG,reduceIte,reduceCtorEq,zA,zB,zC,zD,zE,zF,zG,zH,zI,zJ, tx_size, k3, hx, u8_eql, k4]); rw [hKn];clear hKn Kn;simp only [QV,reduceIte,reduceCtorEq,Nat.reduceEqDiff])
   ((repeat refine Ws ?_);refine Wt (by first|rfl|simp only [EV,zF,reduceIte]) ?_)
   ((repeat refine Ws ?_);refine W_regionE T_ok ?_; intro Kn hKn)
   ((simp (maxSteps := 1000000) only [VL,VM,↓VG,reduceIte,reduceCtorEq,zA,zB,zC,zD,zE,zF,zG,zH,zI,zJ, tx_size, k5, k6, decide_true, Bool.and_true, tx_extract, hlen, q1]); rw [hKn];clear hKn Kn;simp only [QV,reduceIte,reduceCtorEq,Nat.reduceEqDiff])
   ((repeat refine Ws ?_);refine W_regionE T_ok ?_; intro Kn hKn)
   ((simp (maxSteps := 1000000) only [VL,VM,↓VG,reduceIte,reduceCtorEq,zA,zB,zC,zD,zE,zF,zG,zH,zI,zJ, k1]); rw [hKn];clear hKn Kn;simp only [QV,reduceIte,reduceCtorEq,Nat.reduceEqDiff])
   ((repeat refine Ws ?_);refine W_regionE T_ok ?_; intro Kn hKn)
   ((simp (maxSteps := 1000000) only [VL,VM,↓VG,reduceIte,reduceCtorEq,zA,zB,zC,zD,zE,zF,zG,zH,zI,zJ, k1]); rw [hKn];clear hKn Kn;simp only [QV,reduceIte,reduceCtorEq,Nat.reduceEqDiff])
   refine LoopK.mk ⟨i + 1, i + 1, dn ++ [(s.take i).drop fr]⟩ (by simp only; omega) ⟨by simp; omega, .inl ⟨by simp only; omega, Nat.le_refl _, ?_, by simp⟩⟩ ⟨rfl, rfl, ?_, rfl, rfl, trivial⟩ ?_
   ·simp only [List.append_assoc, List.singleton_append]
    rw [← hst, hcut]
   ·simp [get_cons, strsV]
   ·simp
  ·have k4 : (s[i].toNat = c.toNat) = False := eq_false (fun e => hc (u8_inj.1 e))
   ((repeat refine Ws ?_);refine W_regionE T_ok ?_; intro Kn hKn)
   ((simp (maxSteps := 1000000) only [VL,VM,↓VG,reduceIte,reduceCtorEq,zA,zB,zC,zD,zE,zF,zG,zH,zI,zJ, tx_size, k2]); rw [hKn];clear hKn Kn;simp only [QV,reduceIte,reduceCtorEq,Nat.reduceEqDiff])
   ((repeat refine Ws ?_);refine Wt (by first|rfl|simp only [EV,zF,reduceIte]) ?_)
   (((repeat refine Ws ?_);refine W_skip ?_); simp only [QV,reduceIte,reduceCtorEq,Nat.reduceEqDiff])
   ((repeat refine Ws ?_);refine W_block ?_)
   ((repeat refine Ws ?_);refine W_regionE T_ok ?_; intro Kn hKn)
   ((simp (maxSteps := 1000000) only [VL,VM,↓VG,reduceIte,reduceCtorEq,zA,zB,zC,zD,zE,zF,zG,zH,zI,zJ, tx_size, k3, hx, u8_eql, k4]); rw [hKn];clear hKn Kn;simp only [QV,reduceIte,reduceCtorEq,Nat.reduceEqDiff])
   ((repeat refine Ws ?_);refine Wf (by first|rfl|simp only [EV,zF,reduceIte]) ?_)
   (((repeat refine Ws ?_);refine W_skip ?_); simp only [QV,reduceIte,reduceCtorEq,Nat.reduceEqDiff])
   ((repeat refine Ws ?_);refine W_regionE T_ok ?_; intro Kn hKn)
   ((simp (maxSteps := 1000000) only [VL,VM,↓VG,reduceIte,reduceCtorEq,zA,zB,zC,zD,zE,zF,zG,zH,zI,zJ, k1]); rw [hKn];clear hKn Kn;simp only [QV,reduceIte,reduceCtorEq,Nat.reduceEqDiff])
   exact LoopK.mk ⟨i + 1, fr, dn⟩ (by simp only; omega) ⟨by simp only; omega, .inl ⟨by simp only; omega, by simp only; omega, hcut, no_drop hf hlt hno hc⟩⟩ ⟨rfl, rfl, rfl, rfl, rfl, trivial⟩ rfl
 ·obtain rfl : i = s.length := by omega
  have k3 : ((s.length : Int) = (s.length : Int)) = True := eq_true rfl
  have k5 : (s.length ≤ s.length) = True := eq_true (Nat.le_refl _)
  have k6 : (fr ≤ s.length) = True := eq_true hf
  rw [List.take_length] at hno
  ((repeat refine Ws ?_);refine W_regionE T_ok ?_; intro Kn hKn)
  ((simp (maxSteps := 1000000) only [VL,VM,↓VG,reduceIte,reduceCtorEq,zA,zB,zC,zD,zE,zF,zG,zH,zI,zJ, tx_size, k2]); rw [hKn];clear hKn Kn;simp only [QV,reduceIte,reduceCtorEq,Nat.reduceEqDiff])
  ((repeat refine Ws ?_);refine Wt (by first|rfl|simp only [EV,zF,reduceIte]) ?_)
  (((repeat refine Ws ?_);refine W_skip ?_); simp only [QV,reduceIte,reduceCtorEq,Nat.reduceEqDiff])
  ((repeat refine Ws ?_);refine W_block ?_)
  ((repeat refine Ws ?_);refine W_regionE T_ok ?_; intro Kn hKn)
  ((simp (maxSteps := 1000000) only [VL,VM,↓VG,reduceIte,reduceCtorEq,zA,zB,zC,zD,zE,zF,zG,zH,zI,zJ, tx_size, k3]); rw [hKn];clear hKn Kn;simp only [QV,reduceIte,reduceCtorEq,Nat.reduceEqDiff])
  ((repeat refine Ws ?_);refine Wt (by first|rfl|simp only [EV,zF,reduceIte]) ?_)
  ((repeat refine Ws ?_);refine W_regionE T_ok ?_; intro Kn hKn)
  ((simp (maxSteps := 1000000) only [VL,VM,↓VG,reduceIte,reduceCtorEq,zA,zB,zC,zD,zE,zF,zG,zH,zI,zJ, tx_size, k5, k6, decide_true, Bool.and_true, tx_extract, List.take_length, hlen, q1]); rw [hKn];clear hKn Kn;simp only [QV,reduceIte,reduceCtorEq,Nat.reduceEqDiff])
  ((repeat refine Ws ?_);refine W_regionE T_ok ?_; intro Kn hKn)
  ((simp (maxSteps := 1000000) only [VL,VM,↓VG,reduceIte,reduceCtorEq,zA,zB,zC,zD,zE,zF,zG,zH,zI,zJ, k1]); rw [hKn];clear hKn Kn;simp only [QV,reduceIte,reduceCtorEq,Nat.reduceEqDiff])
  ((repeat refine Ws ?_);refine W_regionE T_ok ?_; intro Kn hKn)
  ((simp (maxSteps := 1000000) only [VL,VM,↓VG,reduceIte,reduceCtorEq,zA,zB,zC,zD,zE,zF,zG,zH,zI,zJ, k1]); rw [hKn];clear hKn Kn;simp only [QV,reduceIte,reduceCtorEq,Nat.reduceEqDiff])
  refine LoopK.mk ⟨s.length + 1, s.length + 1, dn ++ [s.drop fr]⟩ (by simp only; omega) ⟨by simp; omega, .inr ⟨rfl, ?_⟩⟩ ⟨rfl, rfl, ?_, rfl, rfl, trivial⟩ ?_
  ·rw [hcut, cutL_none c hno]
  ·simp [get_cons, strsV]
  ·simp
end Go.Proofs.YtmiiipdgbkipjaaGreatDoor.Vm

/- The reference's Write, on values. (Vm) -/
namespace Go.Proofs.YtmiiipdgbkipjaaGreatDoor.Vm
open Go Go.Proofs
theorem own_ret2t {T : Tab} {f : Nat} {fn : Func} {M : Mem} {L : List VObj} {e : Env} {t t' : Nat} {X Y : VV} (h1 : fn.results.toList = [.tmp t, .tmp t']) (hr : frz M.H.length (M.H ++ L) (get e t) = X) (hr' : frz M.H.length (M.H ++ L) (get e t') = Y) (h2 : refs X = []) (h2' : refs Y = []) : ownQ T f fn M (fun r M' => M' = M ∧ r = .tup [X, Y]) .ret e ⟨M.H ++ L, M.lg⟩ [] :=
 own_ret (vs := [get e t, get e t']) (by rw [h1]; rfl) (by simp only [vtup, frz, frzL, hr, hr']) (by simp [refs, refsL, h2, h2']) ⟨rfl, rfl⟩
def writeT (y : Ya) : By := if yErr y = 0 then writeS y else []
set_option maxHeartbeats 1000000 in
theorem rwrite_v (y : Ya) (M : Mem) (hn : y.ramps.length ≤ 1000000) (hm : y.carts.length ≤ 1000000) (hl : ∀ c ∈ y.carts, c.ramps.length ≤ 1000000) : VC Tryz.prog 10 [yardV y] M (fun r M' => M' = M ∧ r = .tup [vs (writeT y), vi (yErr y)]) := by
 refine VC_own' T_ok (f := 10) (fn := Tryz.f10) (by kernel_rfl) rfl Tryz.ntmps10 (by rfl) (by rfl) ?_
 ((repeat refine Ws ?_);refine W_regionE T_ok ?_; intro Kn hKn)
 ((simp (maxSteps := 1000000) only [VL,VM,↓VG,reduceIte,reduceCtorEq,zA,zB,zC,zD,zE,zF,zG,zH,zI,zJ]); rw [hKn];clear hKn Kn;simp only [QV,reduceIte,reduceCtorEq,Nat.reduceEqDiff])
 ((repeat refine Ws ?_);refine W_regionE T_ok ?_; intro Kn hKn)
 simp (maxSteps := 1000000) only [VL,VM,↓VG,reduceIte,reduceCtorEq,zA,zB,zC,zD,zE,zF,zG,zH,zI,zJ]
 apply call_eq (f := 33) (fn := Tryz.f33) (by kernel_rfl) (by rfl)
 ·exact rcheck_v y _ hn hm hl
 ((simp (maxSteps := 1000000) only [VL,VM,↓VG,reduceIte,reduceCtorEq,zA,zB,zC,zD,zE,zF,zG,zH,zI,zJ]); rw [hKn];clear hKn Kn;simp only [QV,reduceIte,reduceCtorEq,Nat.reduceEqDiff])
 ((repeat refine Ws ?_);refine W_regionE T_ok ?_; intro Kn hKn)
 by_cases h1 : yErr y = 0
 rotate_left
 ·have k1 : (yErr y = 0) = False := eq_false h1
  ((simp (maxSteps := 1000000) only [VL,VM,↓VG,reduceIte,reduceCtorEq,zA,zB,zC,zD,zE,zF,zG,zH,zI,zJ, k1]); rw [hKn];clear hKn Kn;simp only [QV,reduceIte,reduceCtorEq,Nat.reduceEqDiff])
  ((repeat refine Ws ?_);refine Wt (by first|rfl|simp only [EV,zF,reduceIte]) ?_)
  ((repeat refine Ws ?_);refine W_regionE T_ok ?_; intro Kn hKn)
  ((simp (maxSteps := 1000000) only [VL,VM,↓VG,reduceIte,reduceCtorEq,zA,zB,zC,zD,zE,zF,zG,zH,zI,zJ]); rw [hKn];clear hKn Kn;simp only [QV,reduceIte,reduceCtorEq,Nat.reduceEqDiff])
  (repeat refine Ws ?_)
  refine W_ret ?_
  try simp only [thenQ, blockQ]
  refine own_ret2t rfl ?_ ?_ (by rfl) (by rfl)
  ·simp only [get_cons, frz, vtup, Nat.reduceEqDiff, if_true, if_false, reduceIte]
   rw [show writeT y = [] from if_neg h1]
   rfl
  ·simp only [get_cons, frz, vtup, Nat.reduceEqDiff, if_true, if_false, reduceIte]
 have hy := yErr_ok.1 h1
 have k1 : (yErr y = 0) = True := eq_true h1
 have n1 := hy.n1
 have m1 := hy.m1
 have s0 := hy.s0
 have s1 := hy.s1
 ((simp (maxSteps := 1000000) only [VL,VM,↓VG,reduceIte,reduceCtorEq,zA,zB,zC,zD,zE,zF,zG,zH,zI,zJ, k1]); rw [hKn];clear hKn Kn;simp only [QV,reduceIte,reduceCtorEq,Nat.reduceEqDiff])
 ((repeat refine Ws ?_);refine Wf (by first|rfl|simp only [EV,zF,reduceIte]) ?_)
 (((repeat refine Ws ?_);refine W_skip ?_); simp only [QV,reduceIte,reduceCtorEq,Nat.reduceEqDiff])
 have fs : FitL [y.sweep] := fun n hn => by
  simp only [List.mem_singleton] at hn
  omega
 have l0 := rowS_len (w := wYard) fs
 ((repeat refine Ws ?_);refine W_regionE T_ok ?_; intro Kn hKn)
 simp (maxSteps := 1000000) only [VL,VM,↓VG,reduceIte,reduceCtorEq,zA,zB,zC,zD,zE,zF,zG,zH,zI,zJ]
 apply call_eq (f := 34) (fn := Tryz.f34) (by kernel_rfl) (by rfl)
 ·exact rrow_v wYard [y.sweep] _ (by simp) (by simp [wYard]) fs
 ((simp (maxSteps := 1000000) only [VL,VM,↓VG,reduceIte,reduceCtorEq,zA,zB,zC,zD,zE,zF,zG,zH,zI,zJ]); rw [hKn];clear hKn Kn;simp only [QV,reduceIte,reduceCtorEq,Nat.reduceEqDiff])
 ((repeat refine Ws ?_);refine W_regionE T_ok ?_; intro Kn hKn)
 ((simp (maxSteps := 1000000) only [VL,VM,↓VG,reduceIte,reduceCtorEq,zA,zB,zC,zD,zE,zF,zG,zH,zI,zJ]); rw [hKn];clear hKn Kn;simp only [QV,reduceIte,reduceCtorEq,Nat.reduceEqDiff])
 have lr : ∀ i, ((y.ramps.take i).flatMap fun r => rowS wRamp (raL r)).length ≤ 300 := fun i => by
  have := byF_len (f := fun r => rowS wRamp (raL r)) (k := 100) (l := y.ramps.take i) fun r hr => raRow_len (hy.ra r (List.mem_of_mem_take hr))
  rw [List.length_take] at this
  omega
 have lc : ∀ i, ((y.carts.take i).flatMap fun c => rowS wCart (ctL c)).length ≤ 1400 := fun i => by
  have := byF_len (f := fun c => rowS wCart (ctL c)) (k := 200) (l := y.carts.take i) fun c hc => ctRow_len (hy.ct c (List.mem_of_mem_take hc)) n1
  rw [List.length_take] at this
  omega
 simp only [wYard, List.length_cons, List.length_nil] at l0
 ((repeat refine Ws ?_);refine W_block ?_; (repeat refine Ws ?_)); refine W_loopS (fun s : Nat × List VObj => [(1, .ptr M.H.length 0), (5, vs (rowS wYard [y.sweep] ++ (y.ramps.take s.1).flatMap fun r => rowS wRamp (raL r))), (6, vi s.1)]) (fun s => ⟨M.H ++ .obj (yardC y) :: s.2, M.lg⟩) (fun s => y.ramps.length - s.1) (fun s => s.1 ≤ y.ramps.length) (0, []) (Nat.zero_le _) ⟨rfl, by simp [get_cons], rfl, trivial⟩ (by simp) ?_
 rintro ⟨i, L⟩ hi
 simp only at hi
 have k2 : -9223372036854775808 ≤ (i : Int) + 1 ∧ (i : Int) + 1 < 9223372036854775808 := by omega
 ((repeat refine Ws ?_);refine W_regionE T_ok ?_; intro Kn hKn)
 rcases Nat.lt_or_ge i y.ramps.length with hlt | hge
 ·have k3 : ((i : Int) < (y.ramps.length : Int)) = True := eq_true (by omega)
  have hx := map_at (f := raP) (List.getElem?_eq_getElem hlt)
  have hv := hy.ra _ (List.getElem_mem hlt)
  have key := byF_take (f := fun r => rowS wRamp (raL r)) hlt
  have ll := lr i
  have lw := raRow_len hv
  generalize y.ramps[i] = r at hx hv key lw
  generalize ((y.ramps.take i).flatMap fun r => rowS wRamp (raL r)) = pre at key ll ⊢
  have q1 := v_addS 9 (rowS wYard [y.sweep] ++ pre) (rowS wRamp (raL r)) (by rw [List.length_append]; simp only [wYard]; omega)
  ((simp (maxSteps := 1000000) only [VL,VM,↓VG,reduceIte,reduceCtorEq,zA,zB,zC,zD,zE,zF,zG,zH,zI,zJ, k3]); rw [hKn];clear hKn Kn;simp only [QV,reduceIte,reduceCtorEq,Nat.reduceEqDiff])
  ((repeat refine Ws ?_);refine Wt (by first|rfl|simp only [EV,zF,reduceIte]) ?_)
  (((repeat refine Ws ?_);refine W_skip ?_); simp only [QV,reduceIte,reduceCtorEq,Nat.reduceEqDiff])
  ((repeat refine Ws ?_);refine W_block ?_)
  ((repeat refine Ws ?_);refine W_regionE T_ok ?_; intro Kn hKn)
  ((simp (maxSteps := 1000000) only [VL,VM,↓VG,reduceIte,reduceCtorEq,zA,zB,zC,zD,zE,zF,zG,zH,zI,zJ, hx]); rw [hKn];clear hKn Kn;simp only [QV,reduceIte,reduceCtorEq,Nat.reduceEqDiff])
  ((repeat refine Ws ?_);refine W_regionE T_ok ?_; intro Kn hKn)
  simp (maxSteps := 1000000) only [VL,VM,↓VG,reduceIte,reduceCtorEq,zA,zB,zC,zD,zE,zF,zG,zH,zI,zJ]
  apply call_eq (f := 34) (fn := Tryz.f34) (by kernel_rfl) (by rfl)
  ·exact rrow_v wRamp (raL r) _ (by simp [raL]) (by simp [wRamp]) (raV_fit hv)
  ((simp (maxSteps := 1000000) only [VL,VM,↓VG,reduceIte,reduceCtorEq,zA,zB,zC,zD,zE,zF,zG,zH,zI,zJ, q1]); rw [hKn];clear hKn Kn;simp only [QV,reduceIte,reduceCtorEq,Nat.reduceEqDiff])
  ((repeat refine Ws ?_);refine W_regionE T_ok ?_; intro Kn hKn)
  ((simp (maxSteps := 1000000) only [VL,VM,↓VG,reduceIte,reduceCtorEq,zA,zB,zC,zD,zE,zF,zG,zH,zI,zJ, k2]); rw [hKn];clear hKn Kn;simp only [QV,reduceIte,reduceCtorEq,Nat.reduceEqDiff])
  refine LoopK.mk (i + 1, _) (by simp; omega) (by simp; omega) ⟨rfl, ?_, rfl, trivial⟩ rfl
  rw [key]; simp [get_cons]
 have k3 : ((i : Int) < (y.ramps.length : Int)) = False := eq_false (by omega)
 obtain rfl : i = y.ramps.length := by omega
 ((simp (maxSteps := 1000000) only [VL,VM,↓VG,reduceIte,reduceCtorEq,zA,zB,zC,zD,zE,zF,zG,zH,zI,zJ, k3, List.take_length]); rw [hKn];clear hKn Kn;simp only [QV,reduceIte,reduceCtorEq,Nat.reduceEqDiff])
 ((repeat refine Ws ?_);refine Wf (by first|rfl|simp only [EV,zF,reduceIte]) ?_)
 (((repeat refine Ws ?_);refine W_exit ?_); simp only [QV,reduceIte,reduceCtorEq,Nat.reduceEqDiff])
 have lrr := lr y.ramps.length
 rw [List.take_length] at lrr
 ((repeat refine Ws ?_);refine W_regionE T_ok ?_; intro Kn hKn)
 ((simp (maxSteps := 1000000) only [VL,VM,↓VG,reduceIte,reduceCtorEq,zA,zB,zC,zD,zE,zF,zG,zH,zI,zJ]); rw [hKn];clear hKn Kn;simp only [QV,reduceIte,reduceCtorEq,Nat.reduceEqDiff])
 generalize hR : (y.ramps.flatMap fun r => rowS wRamp (raL r)) = R at lrr ⊢
 ((repeat refine Ws ?_);refine W_block ?_; (repeat refine Ws ?_)); refine W_loopS (fun s : Nat × List VObj => [(1, .ptr M.H.length 0), (5, vs (rowS wYard [y.sweep] ++ R ++ (y.carts.take s.1).flatMap fun c => rowS wCart (ctL c))), (8, vi s.1)]) (fun s => ⟨M.H ++ .obj (yardC y) :: s.2, M.lg⟩) (fun s => y.carts.length - s.1) (fun s => s.1 ≤ y.carts.length) (0, L) (Nat.zero_le _) ⟨rfl, by simp [get_cons], rfl, trivial⟩ (by simp) ?_
 rintro ⟨i, L⟩ hi
 simp only at hi
 have k2 : -9223372036854775808 ≤ (i : Int) + 1 ∧ (i : Int) + 1 < 9223372036854775808 := by omega
 ((repeat refine Ws ?_);refine W_regionE T_ok ?_; intro Kn hKn)
 rcases Nat.lt_or_ge i y.carts.length with hlt | hge
 ·have k3 : ((i : Int) < (y.carts.length : Int)) = True := eq_true (by omega)
  have hx := map_at (f := ctP) (List.getElem?_eq_getElem hlt)
  have hv := hy.ct _ (List.getElem_mem hlt)
  have key := byF_take (f := fun c => rowS wCart (ctL c)) hlt
  have ll := lc i
  have lw := ctRow_len hv n1
  have ls := ctV_short hv
  generalize y.carts[i] = c at hx hv key lw ls
  generalize ((y.carts.take i).flatMap fun c => rowS wCart (ctL c)) = pre at key ll ⊢
  have q1 := v_addS 9 (rowS wYard [y.sweep] ++ (R ++ pre)) (rowS wCart (ctL c)) (by rw [List.length_append, List.length_append]; simp only [wYard]; omega)
  have hlen : (ctL c).length ≤ 1000000 := by simp [ctL]; omega
  have hrow : ∀ (l : List Int) (M' : Mem), l = ctL c → VC Tryz.prog 34 [vs wCart, intsV l] M' (fun r M2 => M2 = M' ∧ r = vs (rowS wCart (ctL c))) := by
   rintro l M' rfl
   exact rrow_v wCart (ctL c) M' hlen (by simp [wCart]) (ctV_fit hv n1)
  ((simp (maxSteps := 1000000) only [VL,VM,↓VG,reduceIte,reduceCtorEq,zA,zB,zC,zD,zE,zF,zG,zH,zI,zJ, k3]); rw [hKn];clear hKn Kn;simp only [QV,reduceIte,reduceCtorEq,Nat.reduceEqDiff])
  ((repeat refine Ws ?_);refine Wt (by first|rfl|simp only [EV,zF,reduceIte]) ?_)
  (((repeat refine Ws ?_);refine W_skip ?_); simp only [QV,reduceIte,reduceCtorEq,Nat.reduceEqDiff])
  ((repeat refine Ws ?_);refine W_block ?_)
  ((repeat refine Ws ?_);refine W_regionE T_ok ?_; intro Kn hKn)
  ((simp (maxSteps := 1000000) only [VL,VM,↓VG,reduceIte,reduceCtorEq,zA,zB,zC,zD,zE,zF,zG,zH,zI,zJ, hx]); rw [hKn];clear hKn Kn;simp only [QV,reduceIte,reduceCtorEq,Nat.reduceEqDiff])
  ((repeat refine Ws ?_);refine W_regionE T_ok ?_; intro Kn hKn)
  by_cases hr : c.ramps = []
  ·have hctl : ctL c = [c.from_, c.until_, c.takes.lo, c.takes.hi, c.grams] := by rw [ctL, hr, List.append_nil]
   simp (maxSteps := 1000000) only [VL,VM,↓VG,reduceIte,reduceCtorEq,zA,zB,zC,zD,zE,zF,zG,zH,zI,zJ, hr]
   apply call_eq (f := 34) (fn := Tryz.f34) (by kernel_rfl) (by rfl)
   ·exact hrow [c.from_, c.until_, c.takes.lo, c.takes.hi, c.grams] _ hctl.symm
   ((simp (maxSteps := 1000000) only [VL,VM,↓VG,reduceIte,reduceCtorEq,zA,zB,zC,zD,zE,zF,zG,zH,zI,zJ, q1]); rw [hKn];clear hKn Kn;simp only [QV,reduceIte,reduceCtorEq,Nat.reduceEqDiff])
   ((repeat refine Ws ?_);refine W_regionE T_ok ?_; intro Kn hKn)
   ((simp (maxSteps := 1000000) only [VL,VM,↓VG,reduceIte,reduceCtorEq,zA,zB,zC,zD,zE,zF,zG,zH,zI,zJ, k2]); rw [hKn];clear hKn Kn;simp only [QV,reduceIte,reduceCtorEq,Nat.reduceEqDiff])
   refine LoopK.mk (i + 1, _) (by simp; omega) (by simp; omega) ⟨rfl, ?_, rfl, trivial⟩ rfl
   rw [key]; simp [get_cons]
  ·have hb : ((5 + c.ramps.length) * 8 ≤ 140737488355328) = True := eq_true (by omega)
   have he : (List.map intP c.ramps).isEmpty = false := by
    rw [List.isEmpty_map]
    exact List.isEmpty_eq_false_iff.2 hr
   simp (maxSteps := 1000000) only [VL,VM,↓VG,reduceIte,reduceCtorEq,zA,zB,zC,zD,zE,zF,zG,zH,zI,zJ, he, hb, Bool.not_false]
   apply call_eq (f := 34) (fn := Tryz.f34) (by kernel_rfl) (by rfl)
   ·exact hrow (c.from_ :: c.until_ :: c.takes.lo :: c.takes.hi :: c.grams :: c.ramps) _ rfl
   ((simp (maxSteps := 1000000) only [VL,VM,↓VG,reduceIte,reduceCtorEq,zA,zB,zC,zD,zE,zF,zG,zH,zI,zJ, q1]); rw [hKn];clear hKn Kn;simp only [QV,reduceIte,reduceCtorEq,Nat.reduceEqDiff])
   ((repeat refine Ws ?_);refine W_regionE T_ok ?_; intro Kn hKn)
   ((simp (maxSteps := 1000000) only [VL,VM,↓VG,reduceIte,reduceCtorEq,zA,zB,zC,zD,zE,zF,zG,zH,zI,zJ, k2]); rw [hKn];clear hKn Kn;simp only [QV,reduceIte,reduceCtorEq,Nat.reduceEqDiff])
   refine LoopK.mk (i + 1, _) (by simp; omega) (by simp; omega) ⟨rfl, ?_, rfl, trivial⟩ rfl
   rw [key]; simp [get_cons]
 have k3 : ((i : Int) < (y.carts.length : Int)) = False := eq_false (by omega)
 obtain rfl : i = y.carts.length := by omega
 have lcc := lc y.carts.length
 rw [List.take_length] at lcc
 have fe : FitL [(y.carts.length : Int)] := fun n hn => by
  simp only [List.mem_singleton] at hn
  omega
 have l2 := rowS_len (w := wEnd) fe
 simp only [wEnd, List.length_cons, List.length_nil] at l2
 generalize hC : (y.carts.flatMap fun c => rowS wCart (ctL c)) = C at lcc ⊢
 have q1 := v_addS 9 (rowS wYard [y.sweep] ++ (R ++ C)) (rowS wEnd [(y.carts.length : Int)]) (by rw [List.length_append, List.length_append]; simp only [wYard, wEnd]; omega)
 ((simp (maxSteps := 1000000) only [VL,VM,↓VG,reduceIte,reduceCtorEq,zA,zB,zC,zD,zE,zF,zG,zH,zI,zJ, k3, List.take_length, hC]); rw [hKn];clear hKn Kn;simp only [QV,reduceIte,reduceCtorEq,Nat.reduceEqDiff])
 ((repeat refine Ws ?_);refine Wf (by first|rfl|simp only [EV,zF,reduceIte]) ?_)
 (((repeat refine Ws ?_);refine W_exit ?_); simp only [QV,reduceIte,reduceCtorEq,Nat.reduceEqDiff])
 ((repeat refine Ws ?_);refine W_regionE T_ok ?_; intro Kn hKn)
 simp (maxSteps := 1000000) only [VL,VM,↓VG,reduceIte,reduceCtorEq,zA,zB,zC,zD,zE,zF,zG,zH,zI,zJ]
 apply call_eq (f := 34) (fn := Tryz.f34) (by kernel_rfl) (by rfl)
 ·exact rrow_v wEnd [(y.carts.length : Int)] _ (by simp) (by simp [wEnd]) fe
 ((simp (maxSteps := 1000000) only [VL,VM,↓VG,reduceIte,reduceCtorEq,zA,zB,zC,zD,zE,zF,zG,zH,zI,zJ, q1]); rw [hKn];clear hKn Kn;simp only [QV,reduceIte,reduceCtorEq,Nat.reduceEqDiff])
 (repeat refine Ws ?_)
 refine W_ret ?_
 try simp only [thenQ, blockQ]
 refine own_ret2t rfl ?_ ?_ (by rfl) (by rfl)
 ·simp only [get_cons, frz, vtup, Nat.reduceEqDiff, if_true, if_false, reduceIte]
  rw [show writeT y = writeS y from if_pos h1, writeS, hR, hC]
  simp [frz]
 ·simp only [get_cons, frz, vtup, Nat.reduceEqDiff, if_true, if_false, reduceIte]
  rw [h1]
end Go.Proofs.YtmiiipdgbkipjaaGreatDoor.Vm

/- The reference's number, on values. (Vm) -/
namespace Go.Proofs.YtmiiipdgbkipjaaGreatDoor.Vm
open Go Go.Proofs
theorem b_lss (t : Nat) (a b : Int) : vbin T .lss t (.p (.int .u8 a)) (.p (.int .u8 b)) = some (vb (decide (a < b))) := by
 have h : Go.binOp .lss 0 (.int .u8 a) (.int .u8 b) = .pure (.bool (decide (a < b))) := rfl
 simp only [vbin, h, pureOf, Option.map_some, ofValue]
theorem b_gtr (t : Nat) (a b : Int) : vbin T .gtr t (.p (.int .u8 a)) (.p (.int .u8 b)) = some (vb (decide (b < a))) := by
 have h : Go.binOp .gtr 0 (.int .u8 a) (.int .u8 b) = .pure (.bool (decide (a > b))) := rfl
 simp only [vbin, h, pureOf, Option.map_some, ofValue, gt_iff_lt]
theorem b_eql (t : Nat) (a b : Int) : vbin T .eql t (.p (.int .u8 a)) (.p (.int .u8 b)) = some (vb (decide (a = b))) := by
 have h : Go.binOp .eql 0 (.int .u8 a) (.int .u8 b) = .pure (.bool (decide (a = b))) := rfl
 simp only [vbin, h, pureOf, Option.map_some, ofValue]
theorem b_sub (t : Nat) (a b : Int) (h1 : b ≤ a) (h0 : 0 ≤ b) (h2 : a < 256) : vbin T .sub t (.p (.int .u8 a)) (.p (.int .u8 b)) = some (.p (.int .u8 (a - b))) := by
 refine bin_pure t ?_
 show Sem.pure (Value.int .u8 (IntKind.u8.wrap (a - b))) = _
 rw [IntWalk.u8_in _ (by omega)]
theorem c_bi (a : Int) (h0 : 0 ≤ a) (h : a < 256) : vconvert T 5 3 (.p (.int .u8 a)) = some (vi a) := by
 simp only [vconvert, t_u8, t_int]
 have : Conv.intToInt .i64 a = .pure (.int .i64 (IntKind.i64.wrap a)) := rfl
 rw [this, IntWalk.i64_in _ (by omega)]
 rfl
theorem own_ret20t {T : Tab} {f : Nat} {fn : Func} {M : Mem} {e : Env} {t t' : Nat} {X Y : VV} (h1 : fn.results.toList = [.tmp t, .tmp t']) (hr : frz M.H.length M.H (get e t) = X) (hr' : frz M.H.length M.H (get e t') = Y) (h2 : refs X = []) (h2' : refs Y = []) : ownQ T f fn M (fun r M' => M' = M ∧ r = .tup [X, Y]) .ret e M [] := by
 have h := own_ret2t (T := T) (f := f) (fn := fn) (M := M) (L := []) (e := e) (X := X) (Y := Y) h1 (by simpa using hr) (by simpa using hr') h2 h2'
 simpa using h
def numT (m : Nat) (s : By) : Int × Bool := match numR m s with
 | some n => (n, true)
 | none => (0, false)
theorem dec_step {s : By} {i n : Nat} (hi : i < s.length) (h : Lib.decFrom 0 (s.take i) = some n) : Lib.decFrom 0 (s.take (i + 1)) = match Lib.digitVal s[i] with
  | some d => some (n * 10 + d)
  | none => none := by
 rw [List.take_succ_eq_append_getElem hi, dec_app, h]
 simp only [Option.bind_some, Lib.decFrom]
 cases Lib.digitVal s[i] <;> rfl
theorem dec_none {s : By} {i : Nat} (h : Lib.decFrom 0 (s.take i) = none) : Lib.decFrom 0 s = none := by
 conv => lhs; rw [← List.take_append_drop i s]
 rw [dec_app, h]
 rfl
set_option maxRecDepth 8000 in
set_option maxHeartbeats 1000000 in
theorem rnumber_v (s : By) (M : Mem) (hs : s.length ≤ 1000000) : VC Tryz.prog 65 [vs s] M (fun r M' => M' = M ∧ r = .tup [vi (numT 7 s).1, vb (numT 7 s).2]) := by
 refine VC_own' T_ok (f := 65) (fn := Tryz.f65) (by kernel_rfl) rfl Tryz.ntmps65 (by rfl) (by rfl) ?_
 ((repeat refine Ws ?_);refine W_regionE T_ok ?_; intro Kn hKn)
 ((simp (maxSteps := 1000000) only [VL,VM,↓VG,reduceIte,reduceCtorEq,zA,zB,zC,zD,zE,zF,zG,zH,zI,zJ]); rw [hKn];clear hKn Kn;simp only [QV,reduceIte,reduceCtorEq,Nat.reduceEqDiff])
 have fall : (s.length < 1 ∨ 7 < s.length ∨ (s.head? = some 48 ∧ 1 < s.length)) → numT 7 s = (0, false) := fun h => by
  unfold numT numR
  rw [if_pos h]
 ((repeat refine Ws ?_);refine W_regionE T_ok ?_; intro Kn hKn)
 rcases Nat.eq_zero_or_pos s.length with h0 | h0
 ·have k1 : ((s.length : Int) < 1) = True := eq_true (by omega)
  ((simp (maxSteps := 1000000) only [VL,VM,↓VG,reduceIte,reduceCtorEq,zA,zB,zC,zD,zE,zF,zG,zH,zI,zJ, tx_size, k1]); rw [hKn];clear hKn Kn;simp only [QV,reduceIte,reduceCtorEq,Nat.reduceEqDiff])
  ((repeat refine Ws ?_);refine Wt (by first|rfl|simp only [EV,zF,reduceIte]) ?_)
  ((repeat refine Ws ?_);refine W_regionE T_ok ?_; intro Kn hKn)
  ((simp (maxSteps := 1000000) only [VL,VM,↓VG,reduceIte,reduceCtorEq,zA,zB,zC,zD,zE,zF,zG,zH,zI,zJ]); rw [hKn];clear hKn Kn;simp only [QV,reduceIte,reduceCtorEq,Nat.reduceEqDiff])
  (repeat refine Ws ?_)
  refine W_ret ?_
  try simp only [thenQ, blockQ]
  refine own_ret20t rfl ?_ ?_ (by rfl) (by rfl)
  ·simp only [get_cons, frz, vtup, Nat.reduceEqDiff, if_true, if_false, reduceIte]
   rw [fall (.inl (by omega))]
  ·simp only [get_cons, frz, vtup, Nat.reduceEqDiff, if_true, if_false, reduceIte]
   rw [fall (.inl (by omega))]
 have k1 : ((s.length : Int) < 1) = False := eq_false (by omega)
 rcases Nat.lt_or_ge 7 s.length with h7 | h7
 ·have k2 : ((7 : Int) < (s.length : Int)) = True := eq_true (by omega)
  ((simp (maxSteps := 1000000) only [VL,VM,↓VG,reduceIte,reduceCtorEq,zA,zB,zC,zD,zE,zF,zG,zH,zI,zJ, tx_size, k1, k2]); rw [hKn];clear hKn Kn;simp only [QV,reduceIte,reduceCtorEq,Nat.reduceEqDiff])
  ((repeat refine Ws ?_);refine Wt (by first|rfl|simp only [EV,zF,reduceIte]) ?_)
  ((repeat refine Ws ?_);refine W_regionE T_ok ?_; intro Kn hKn)
  ((simp (maxSteps := 1000000) only [VL,VM,↓VG,reduceIte,reduceCtorEq,zA,zB,zC,zD,zE,zF,zG,zH,zI,zJ]); rw [hKn];clear hKn Kn;simp only [QV,reduceIte,reduceCtorEq,Nat.reduceEqDiff])
  (repeat refine Ws ?_)
  refine W_ret ?_
  try simp only [thenQ, blockQ]
  refine own_ret20t rfl ?_ ?_ (by rfl) (by rfl)
  ·simp only [get_cons, frz, vtup, Nat.reduceEqDiff, if_true, if_false, reduceIte]
   rw [fall (.inr (.inl h7))]
  ·simp only [get_cons, frz, vtup, Nat.reduceEqDiff, if_true, if_false, reduceIte]
   rw [fall (.inr (.inl h7))]
 have k2 : ((7 : Int) < (s.length : Int)) = False := eq_false (by omega)
 have hx0 : (tx s)[0]? = some s[0] := by rw [tx_get, List.getElem?_eq_getElem h0]
 have hh : s.head? = some s[0] := by rw [List.head?_eq_getElem?, List.getElem?_eq_getElem h0]
 have hK : ¬ (s[0] = 48 ∧ 1 < s.length) → ∀ e', get e' 0 = vs s → get e' 23 = vb false → Kn e' M := by
  intro hno e' he h23
  have hnum : numR 7 s = (Lib.decFrom 0 s).map fun (n : Nat) => (n : Int) := by
   unfold numR
   rw [if_neg]
   rintro (h | h | ⟨h, h'⟩)
   ·omega
   ·omega
   ·rw [hh] at h
    exact hno ⟨Option.some.inj h, h'⟩
  rw [hKn]
  simp only [QV,reduceIte,reduceCtorEq,Nat.reduceEqDiff]
  clear hKn Kn
  (repeat refine Ws ?_)
  refine W_cond (b := false) (by simp only [ev]; exact h23) (fun h => by cases h) (fun _ => ?_)
  (((repeat refine Ws ?_);refine W_skip ?_); simp only [QV,reduceIte,reduceCtorEq,Nat.reduceEqDiff])
  ((repeat refine Ws ?_);refine W_regionE T_ok ?_; intro Kn hKn)
  ((simp (maxSteps := 1000000) only [VL,VM,↓VG,reduceIte,reduceCtorEq,zA,zB,zC,zD,zE,zF,zG,zH,zI,zJ]); rw [hKn];clear hKn Kn;simp only [QV,reduceIte,reduceCtorEq,Nat.reduceEqDiff])
  ((repeat refine Ws ?_);refine W_regionE T_ok ?_; intro Kn hKn)
  ((simp (maxSteps := 1000000) only [VL,VM,↓VG,reduceIte,reduceCtorEq,zA,zB,zC,zD,zE,zF,zG,zH,zI,zJ]); rw [hKn];clear hKn Kn;simp only [QV,reduceIte,reduceCtorEq,Nat.reduceEqDiff])
  ((repeat refine Ws ?_);refine W_block ?_; (repeat refine Ws ?_)); refine W_loopS (fun z : Nat × Nat => [(0, vs s), (4, vi z.2), (5, vi z.1)]) (fun _ => M) (fun z => s.length - z.1) (fun z => z.1 ≤ s.length ∧ Lib.decFrom 0 (s.take z.1) = some z.2 ∧ z.2 < 10 ^ z.1) (0, 0) ⟨Nat.zero_le _, rfl, by simp⟩ ⟨by simp [get_cons, he], rfl, rfl, trivial⟩ (by simp) ?_
  rintro ⟨i, n⟩ ⟨hi, hdec, hn⟩
  simp only at hi hdec hn
  have k3 : -9223372036854775808 ≤ (i : Int) + 1 ∧ (i : Int) + 1 < 9223372036854775808 := by omega
  ((repeat refine Ws ?_);refine W_regionE T_ok ?_; intro Kn hKn)
  rcases Nat.lt_or_ge i s.length with hlt | hge
  rotate_left
  ·have k4 : ((i : Int) < (s.length : Int)) = False := eq_false (by omega)
   obtain rfl : i = s.length := by omega
   rw [List.take_length] at hdec
   have hT : numT 7 s = ((n : Int), true) := by
    unfold numT
    rw [hnum, hdec]
    rfl
   ((simp (maxSteps := 1000000) only [VL,VM,↓VG,reduceIte,reduceCtorEq,zA,zB,zC,zD,zE,zF,zG,zH,zI,zJ, tx_size, k4]); rw [hKn];clear hKn Kn;simp only [QV,reduceIte,reduceCtorEq,Nat.reduceEqDiff])
   ((repeat refine Ws ?_);refine Wf (by first|rfl|simp only [EV,zF,reduceIte]) ?_)
   (((repeat refine Ws ?_);refine W_exit ?_); simp only [QV,reduceIte,reduceCtorEq,Nat.reduceEqDiff])
   ((repeat refine Ws ?_);refine W_regionE T_ok ?_; intro Kn hKn)
   ((simp (maxSteps := 1000000) only [VL,VM,↓VG,reduceIte,reduceCtorEq,zA,zB,zC,zD,zE,zF,zG,zH,zI,zJ]); rw [hKn];clear hKn Kn;simp only [QV,reduceIte,reduceCtorEq,Nat.reduceEqDiff])
   (repeat refine Ws ?_)
   refine W_ret ?_
   try simp only [thenQ, blockQ]
   refine own_ret20t rfl ?_ ?_ (by rfl) (by rfl)
   ·simp only [get_cons, frz, vtup, Nat.reduceEqDiff, if_true, if_false, reduceIte]
    rw [hT]
   ·simp only [get_cons, frz, vtup, Nat.reduceEqDiff, if_true, if_false, reduceIte]
    rw [hT]
  have k4 : ((i : Int) < (s.length : Int)) = True := eq_true (by omega)
  have hx : (tx s)[i]? = some s[i] := by rw [tx_get, List.getElem?_eq_getElem hlt]
  have hst := dec_step hlt hdec
  have hb := s[i].toNat_lt
  ((simp (maxSteps := 1000000) only [VL,VM,↓VG,reduceIte,reduceCtorEq,zA,zB,zC,zD,zE,zF,zG,zH,zI,zJ, tx_size, k4]); rw [hKn];clear hKn Kn;simp only [QV,reduceIte,reduceCtorEq,Nat.reduceEqDiff])
  ((repeat refine Ws ?_);refine Wt (by first|rfl|simp only [EV,zF,reduceIte]) ?_)
  (((repeat refine Ws ?_);refine W_skip ?_); simp only [QV,reduceIte,reduceCtorEq,Nat.reduceEqDiff])
  ((repeat refine Ws ?_);refine W_block ?_)
  ((repeat refine Ws ?_);refine W_regionE T_ok ?_; intro Kn hKn)
  by_cases hd : 48 ≤ s[i].toNat ∧ s[i].toNat ≤ 57
  ·have k5 : ((s[i].toNat : Int) < 48) = False := eq_false (by omega)
   have k6 : ((57 : Int) < (s[i].toNat : Int)) = False := eq_false (by omega)
   have hdv : Lib.digitVal s[i] = some (s[i].toNat - 48) := by unfold Lib.digitVal; rw [if_pos hd]
   rw [hdv] at hst
   have hp : 10 ^ i ≤ 10 ^ 6 := Nat.pow_le_pow_right (by omega) (by omega)
   have q1 := b_sub 5 (s[i].toNat : Int) 48 (by omega) (by omega) (by omega)
   have q2 := c_bi ((s[i].toNat : Int) - 48) (by omega) (by omega)
   have q3 : -9223372036854775808 ≤ (10 : Int) * n ∧ (10 : Int) * n < 9223372036854775808 := by omega
   have q4 : -9223372036854775808 ≤ (10 : Int) * n + ((s[i].toNat : Int) - 48) ∧ (10 : Int) * n + ((s[i].toNat : Int) - 48) < 9223372036854775808 := by omega
   ((simp (maxSteps := 1000000) only [VL,VM,↓VG,reduceIte,reduceCtorEq,zA,zB,zC,zD,zE,zF,zG,zH,zI,zJ, hx, b_lss, b_gtr, k5, k6]); rw [hKn];clear hKn Kn;simp only [QV,reduceIte,reduceCtorEq,Nat.reduceEqDiff])
   ((repeat refine Ws ?_);refine Wf (by first|rfl|simp only [EV,zF,reduceIte]) ?_)
   (((repeat refine Ws ?_);refine W_skip ?_); simp only [QV,reduceIte,reduceCtorEq,Nat.reduceEqDiff])
   ((repeat refine Ws ?_);refine W_regionE T_ok ?_; intro Kn hKn)
   ((simp (maxSteps := 1000000) only [VL,VM,↓VG,reduceIte,reduceCtorEq,zA,zB,zC,zD,zE,zF,zG,zH,zI,zJ, hx, q1, q2, q3, q4]); rw [hKn];clear hKn Kn;simp only [QV,reduceIte,reduceCtorEq,Nat.reduceEqDiff])
   ((repeat refine Ws ?_);refine W_regionE T_ok ?_; intro Kn hKn)
   ((simp (maxSteps := 1000000) only [VL,VM,↓VG,reduceIte,reduceCtorEq,zA,zB,zC,zD,zE,zF,zG,zH,zI,zJ, k3]); rw [hKn];clear hKn Kn;simp only [QV,reduceIte,reduceCtorEq,Nat.reduceEqDiff])
   refine LoopK.mk (i + 1, n * 10 + (s[i].toNat - 48)) (by simp only; omega) ⟨by simp only; omega, hst, by simp only [Nat.pow_succ]; omega⟩ ⟨?_, ?_, rfl, trivial⟩ rfl
   ·simp [get_cons, he]
   ·simp only [get_cons, Nat.reduceEqDiff, if_true, if_false, reduceIte]
    congr 2
    omega
  ·have hdv : Lib.digitVal s[i] = none := by unfold Lib.digitVal; rw [if_neg hd]
   rw [hdv] at hst
   have hT : numT 7 s = (0, false) := by
    unfold numT
    rw [hnum, dec_none hst]
    rfl
   by_cases h48 : s[i].toNat < 48
   ·have k5 : ((s[i].toNat : Int) < 48) = True := eq_true (by omega)
    ((simp (maxSteps := 1000000) only [VL,VM,↓VG,reduceIte,reduceCtorEq,zA,zB,zC,zD,zE,zF,zG,zH,zI,zJ, hx, b_lss, b_gtr, k5]); rw [hKn];clear hKn Kn;simp only [QV,reduceIte,reduceCtorEq,Nat.reduceEqDiff])
    ((repeat refine Ws ?_);refine Wt (by first|rfl|simp only [EV,zF,reduceIte]) ?_)
    ((repeat refine Ws ?_);refine W_regionE T_ok ?_; intro Kn hKn)
    ((simp (maxSteps := 1000000) only [VL,VM,↓VG,reduceIte,reduceCtorEq,zA,zB,zC,zD,zE,zF,zG,zH,zI,zJ]); rw [hKn];clear hKn Kn;simp only [QV,reduceIte,reduceCtorEq,Nat.reduceEqDiff])
    (repeat refine Ws ?_)
    refine W_ret ?_
    try simp only [thenQ, blockQ]
    refine own_ret20t rfl ?_ ?_ (by rfl) (by rfl)
    ·simp only [get_cons, frz, vtup, Nat.reduceEqDiff, if_true, if_false, reduceIte]
     rw [hT]
    ·simp only [get_cons, frz, vtup, Nat.reduceEqDiff, if_true, if_false, reduceIte]
     rw [hT]
   ·have k5 : ((s[i].toNat : Int) < 48) = False := eq_false (by omega)
    have k6 : ((57 : Int) < (s[i].toNat : Int)) = True := eq_true (by omega)
    ((simp (maxSteps := 1000000) only [VL,VM,↓VG,reduceIte,reduceCtorEq,zA,zB,zC,zD,zE,zF,zG,zH,zI,zJ, hx, b_lss, b_gtr, k5, k6]); rw [hKn];clear hKn Kn;simp only [QV,reduceIte,reduceCtorEq,Nat.reduceEqDiff])
    ((repeat refine Ws ?_);refine Wt (by first|rfl|simp only [EV,zF,reduceIte]) ?_)
    ((repeat refine Ws ?_);refine W_regionE T_ok ?_; intro Kn hKn)
    ((simp (maxSteps := 1000000) only [VL,VM,↓VG,reduceIte,reduceCtorEq,zA,zB,zC,zD,zE,zF,zG,zH,zI,zJ]); rw [hKn];clear hKn Kn;simp only [QV,reduceIte,reduceCtorEq,Nat.reduceEqDiff])
    (repeat refine Ws ?_)
    refine W_ret ?_
    try simp only [thenQ, blockQ]
    refine own_ret20t rfl ?_ ?_ (by rfl) (by rfl)
    ·simp only [get_cons, frz, vtup, Nat.reduceEqDiff, if_true, if_false, reduceIte]
     rw [hT]
    ·simp only [get_cons, frz, vtup, Nat.reduceEqDiff, if_true, if_false, reduceIte]
     rw [hT]
 by_cases hz : s[0] = 48
 ·have k3 : ((s[0].toNat : Int) = 48) = True := eq_true (by rw [hz]; rfl)
  by_cases h1 : 1 < s.length
  ·have k4 : ((1 : Int) < (s.length : Int)) = True := eq_true (by omega)
   clear hK
   ((simp (maxSteps := 1000000) only [VL,VM,↓VG,reduceIte,reduceCtorEq,zA,zB,zC,zD,zE,zF,zG,zH,zI,zJ, tx_size, k1, k2, hx0, b_eql, k3, k4]); rw [hKn];clear hKn Kn;simp only [QV,reduceIte,reduceCtorEq,Nat.reduceEqDiff])
   ((repeat refine Ws ?_);refine Wt (by first|rfl|simp only [EV,zF,reduceIte]) ?_)
   ((repeat refine Ws ?_);refine W_regionE T_ok ?_; intro Kn hKn)
   ((simp (maxSteps := 1000000) only [VL,VM,↓VG,reduceIte,reduceCtorEq,zA,zB,zC,zD,zE,zF,zG,zH,zI,zJ]); rw [hKn];clear hKn Kn;simp only [QV,reduceIte,reduceCtorEq,Nat.reduceEqDiff])
   (repeat refine Ws ?_)
   refine W_ret ?_
   try simp only [thenQ, blockQ]
   refine own_ret20t rfl ?_ ?_ (by rfl) (by rfl)
   ·simp only [get_cons, frz, vtup, Nat.reduceEqDiff, if_true, if_false, reduceIte]
    rw [fall (.inr (.inr ⟨by rw [hh, hz], h1⟩))]
   ·simp only [get_cons, frz, vtup, Nat.reduceEqDiff, if_true, if_false, reduceIte]
    rw [fall (.inr (.inr ⟨by rw [hh, hz], h1⟩))]
  ·have k4 : ((1 : Int) < (s.length : Int)) = False := eq_false (by omega)
   simp (maxSteps := 1000000) only [VL,VM,↓VG,reduceIte,reduceCtorEq,zA,zB,zC,zD,zE,zF,zG,zH,zI,zJ, tx_size, k1, k2, hx0, b_eql, k3, k4]
   exact hK (fun h => h1 h.2) _ rfl rfl
 ·have k3 : ((s[0].toNat : Int) = 48) = False := eq_false (fun e => hz (by
   apply UInt8.toNat_inj.1
   have : s[0].toNat = 48 := by omega
   rw [this]; rfl))
  simp (maxSteps := 1000000) only [VL,VM,↓VG,reduceIte,reduceCtorEq,zA,zB,zC,zD,zE,zF,zG,zH,zI,zJ, tx_size, k1, k2, hx0, b_eql, k3]
  exact hK (fun h => hz h.1) _ rfl rfl
end Go.Proofs.YtmiiipdgbkipjaaGreatDoor.Vm
