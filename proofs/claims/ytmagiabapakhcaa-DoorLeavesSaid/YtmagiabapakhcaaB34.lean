/- A part of the proofs about the chapter of the doors; it states no condition of its own. -/
import Derived.Test.YtmagiabapakhcaaB14
import Derived.Test.YtmagiabapakhcaaB21
import Derived.Test.YtmagiabapakhcaaB29
import Derived.Test.YtmagiabapakhcaaB30
import Derived.Test.YtmagiabapakhcaaB31
import Derived.Test.YtmagiabapakhcaaB32
set_option linter.unusedVariables false
set_option linter.unusedSimpArgs false
open Int renaming reduceLE → zA, reduceLT → zB, reduceToNat → zC, reduceNeg → zD
open Nat renaming reduceLT → zE, reduceEqDiff → zF, reduceAdd → zG, reduceSub → zH, reduceMul → zI, reduceLeDiff → zJ
/- Whatever truly went by the doors, plain. -/
namespace Go.Proofs.Ytmagiabapakhcaa
end Go.Proofs.Ytmagiabapakhcaa

/- Doors that are shut, and people that are spread, made of numbers, on values. (Vm) -/
namespace Go.Proofs.Ytmagiabapakhcaa.Vm
open Go Go.Proofs
attribute [local irreducible] castF castU fromF fromU oneF oneU
def shutSt (u : Int) : Nat → Int × List Int
 | 0 => (u, [])
 | i + 1 => (castU (shutSt u i).1 4, if onceF (shutSt u i).1 4 then (shutSt u i).2 ++ [(i : Int)] else (shutSt u i).2)
theorem shut_bd (u : Int) : ∀ n : Nat, (shutSt u n).2.length ≤ n ∧ (∀ x ∈ (shutSt u n).2, 0 ≤ x ∧ x < (n : Int)) ∧ (shutSt u n).2.Pairwise (· < ·)
 | 0 => by simp [shutSt]
 | n + 1 => by
  obtain ⟨h1, h2, h3⟩ := shut_bd u n
  simp only [shutSt]
  split
  ·refine ⟨by simp; omega, fun x hx => ?_, ?_⟩
   ·rcases List.mem_append.1 hx with hx | hx
    ·have := h2 x hx; omega
    ·rw [List.mem_singleton] at hx; omega
   ·rw [List.pairwise_append]
    refine ⟨h3, by simp, fun a ha b hb => ?_⟩
    rw [List.mem_singleton] at hb
    have := h2 a ha
    omega
  ·exact ⟨by omega, fun x hx => by have := h2 x hx; omega, h3⟩
theorem shutOf_v {H0 : List VObj} {d : Nat} (hd : d < H0.length) (u : Int) (lg : List (Nat × Nat)) (h : Ho) (hl : h.doors.length ≤ 1000) :
  VC Try.prog 29 [.ptr d 0, houseV h] ⟨DH H0 d u [], lg⟩ (fun r M' => M' = ⟨DH H0 d (shutSt u h.doors.length).1 [], lg⟩ ∧ r = intsV (shutSt u h.doors.length).2) := by
 refine VC_own' T_ok (f := 29) (fn := Try.f29) (by kernel_rfl) rfl Try.ntmps29 (by rfl) (by rfl) ?_
 ((repeat refine Ws ?_);refine Wr ?_)
 simp (maxSteps := 1000000) only [VL,VM,↓VG,reduceIte,reduceCtorEq,zA,zB,zC,zD,zE,zF,zG,zH,zI,zJ, DH_app hd, DH_len, DH_len0, DH_get hd, DH_get0 hd, DH_set hd, DH_set0 hd, DH_setd, DH_die hd]
 ((repeat refine Ws ?_);refine Wr ?_)
 simp (maxSteps := 1000000) only [VL,VM,↓VG,reduceIte,reduceCtorEq,zA,zB,zC,zD,zE,zF,zG,zH,zI,zJ, DH_app hd, DH_len, DH_len0, DH_get hd, DH_get0 hd, DH_set hd, DH_set0 hd, DH_setd, DH_die hd]
 (repeat refine Ws ?_)
 refine W_tok (t := 5) (k := 1) rfl ?_
 simp (maxSteps := 1000000) only [VL,VM,↓VG,reduceIte,reduceCtorEq,zA,zB,zC,zD,zE,zF,zG,zH,zI,zJ, DH_app hd, DH_len, DH_len0, DH_get hd, DH_get0 hd, DH_set hd, DH_set0 hd, DH_setd, DH_die hd]
 ((repeat refine Ws ?_);refine Wr ?_)
 simp (maxSteps := 1000000) only [VL,VM,↓VG,reduceIte,reduceCtorEq,zA,zB,zC,zD,zE,zF,zG,zH,zI,zJ, DH_app hd, DH_len, DH_len0, DH_get hd, DH_get0 hd, DH_set hd, DH_set0 hd, DH_setd, DH_die hd]
 ((repeat refine Ws ?_);refine W_block ?_; (repeat refine Ws ?_)); refine W_loopS (fun i : Nat => [(0, .ptr d 0), (3, .ptr H0.length 0), (5, .so (H0.length + 1) 1 ((shutSt u i).2.map intP)), (6, vi i)]) (fun i => ⟨DH H0 d (shutSt u i).1 [.obj (houseC h), .clm (shutSt u i).2.length 1], lg⟩) (fun i => h.doors.length - i) (fun i => i ≤ h.doors.length) 0 (Nat.zero_le _) ⟨rfl, rfl, rfl, rfl, trivial⟩ rfl ?_
 intro i hi
 have k1 : -9223372036854775808 ≤ (i : Int) + 1 ∧ (i : Int) + 1 < 9223372036854775808 := by omega
 have hb := (shut_bd u i).1
 have q1 : (((shutSt u i).2.length + 1) * 8 ≤ 140737488355328) = True := eq_true (by omega)
 have hst : shutSt u (i + 1) = (castU (shutSt u i).1 4, if onceF (shutSt u i).1 4 then (shutSt u i).2 ++ [(i : Int)] else (shutSt u i).2) := rfl
 ((repeat refine Ws ?_);refine Wr ?_)
 rcases Nat.lt_or_ge i h.doors.length with hlt | hge
 ·have k2 : ((i : Int) < (h.doors.length : Int)) = True := eq_true (by omega)
  generalize shutSt u i = st at hst q1 ⊢
  obtain ⟨v, l⟩ := st
  simp (maxSteps := 1000000) only [VL,VM,↓VG,reduceIte,reduceCtorEq,zA,zB,zC,zD,zE,zF,zG,zH,zI,zJ, DH_app hd, DH_len, DH_len0, DH_get hd, DH_get0 hd, DH_set hd, DH_set0 hd, DH_setd, DH_die hd, k2]
  ((repeat refine Ws ?_);refine Wt (by first|rfl|simp only [EV,zF,reduceIte]) ?_)
  ((repeat refine Ws ?_);refine W_skip ?_)
  simp (maxSteps := 1000000) only [VL,VM,↓VG,reduceIte,reduceCtorEq,zA,zB,zC,zD,zE,zF,zG,zH,zI,zJ]
  ((repeat refine Ws ?_);refine W_block ?_)
  ((repeat refine Ws ?_);refine Wr ?_)
  simp (maxSteps := 1000000) only [VL,VM,↓VG,reduceIte,reduceCtorEq,zA,zB,zC,zD,zE,zF,zG,zH,zI,zJ]
  apply call_eq (f := 44) (fn := Try.f44) (by kernel_rfl) (by rfl)
  ·exact once_c hd v 4 lg (by omega)
  simp (maxSteps := 1000000) only [VL,VM,↓VG,reduceIte,reduceCtorEq,zA,zB,zC,zD,zE,zF,zG,zH,zI,zJ]
  cases ho : onceF v 4
  ·rw [ho, if_neg (by decide)] at hst
   ((repeat refine Ws ?_);refine Wf (by first|rfl|simp only [EV,zF,reduceIte]) ?_)
   ((repeat refine Ws ?_);refine W_skip ?_)
   simp (maxSteps := 1000000) only [VL,VM,↓VG,reduceIte,reduceCtorEq,zA,zB,zC,zD,zE,zF,zG,zH,zI,zJ]
   ((repeat refine Ws ?_);refine Wr ?_)
   simp (maxSteps := 1000000) only [VL,VM,↓VG,reduceIte,reduceCtorEq,zA,zB,zC,zD,zE,zF,zG,zH,zI,zJ, k1]
   refine LoopK.mk (i + 1) (by omega) (by omega) ⟨rfl, rfl, ?_, rfl, trivial⟩ ?_
   ·rw [hst]; rfl
   ·rw [hst]
  ·rw [ho, if_pos rfl] at hst
   ((repeat refine Ws ?_);refine Wt (by first|rfl|simp only [EV,zF,reduceIte]) ?_)
   ((repeat refine Ws ?_);refine Wr ?_)
   simp (maxSteps := 1000000) only [VL,VM,↓VG,reduceIte,reduceCtorEq,zA,zB,zC,zD,zE,zF,zG,zH,zI,zJ, DH_app hd, DH_len, DH_len0, DH_get hd, DH_get0 hd, DH_set hd, DH_set0 hd, DH_setd, DH_die hd, q1]
   ((repeat refine Ws ?_);refine Wr ?_)
   simp (maxSteps := 1000000) only [VL,VM,↓VG,reduceIte,reduceCtorEq,zA,zB,zC,zD,zE,zF,zG,zH,zI,zJ, k1]
   refine LoopK.mk (i + 1) (by omega) (by omega) ⟨rfl, rfl, ?_, rfl, trivial⟩ ?_
   ·rw [hst]; simp [get_cons]
   ·rw [hst]; simp
 have k2 : ((i : Int) < (h.doors.length : Int)) = False := eq_false (by omega)
 have hi3 : i = h.doors.length := by omega
 subst hi3
 simp (maxSteps := 1000000) only [VL,VM,↓VG,reduceIte,reduceCtorEq,zA,zB,zC,zD,zE,zF,zG,zH,zI,zJ, DH_app hd, DH_len, DH_len0, DH_get hd, DH_get0 hd, DH_set hd, DH_set0 hd, DH_setd, DH_die hd, k2]
 ((repeat refine Ws ?_);refine Wf (by first|rfl|simp only [EV,zF,reduceIte]) ?_)
 ((repeat refine Ws ?_);refine W_exit ?_)
 simp (maxSteps := 1000000) only [VL,VM,↓VG,reduceIte,reduceCtorEq,zA,zB,zC,zD,zE,zF,zG,zH,zI,zJ]
 ((repeat refine Ws ?_);refine Wr ?_)
 simp (maxSteps := 1000000) only [VL,VM,↓VG,reduceIte,reduceCtorEq,zA,zB,zC,zD,zE,zF,zG,zH,zI,zJ]
 (repeat refine Ws ?_)
 refine W_ret ?_
 try simp only [thenQ, blockQ]
 refine own_retD hd rfl ?_ (by rfl)
 simp only [get_cons, frz, vtup, Nat.reduceEqDiff, if_true, if_false, reduceIte]
def spreadSt (u most : Int) : Nat → Int × List Int
 | 0 => (u, [])
 | i + 1 => (oneU (castU (spreadSt u most i).1 (most + 1)) [0, castF (spreadSt u most i).1 (most + 1)], (spreadSt u most i).2 ++ [oneF (castU (spreadSt u most i).1 (most + 1)) [0, castF (spreadSt u most i).1 (most + 1)]])
theorem spread_bd (u : Int) {most : Int} (hm : 0 ≤ most ∧ most ≤ 1000000) : ∀ n : Nat, (spreadSt u most n).2.length = n ∧ (∀ x ∈ (spreadSt u most n).2, 0 ≤ x ∧ x ≤ most)
 | 0 => by simp [spreadSt]
 | n + 1 => by
  obtain ⟨h1, h2⟩ := spread_bd u hm n
  simp only [spreadSt]
  refine ⟨by simp [h1], fun x hx => ?_⟩
  rcases List.mem_append.1 hx with hx | hx
  ·exact h2 x hx
  ·rw [List.mem_singleton] at hx
   have c1 := castF_range (u := (spreadSt u most n).1) (n := most + 1) (by omega)
   have o1 := oneF_mem (u := castU (spreadSt u most n).1 (most + 1)) (xs := [0, castF (spreadSt u most n).1 (most + 1)]) (by simp) (by simp)
   rw [← hx] at o1
   simp only [List.mem_cons, List.not_mem_nil, or_false] at o1
   rcases o1 with e | e <;> rw [e] <;> omega
theorem spreadOf_v {H0 : List VObj} {d : Nat} (hd : d < H0.length) (u : Int) (lg : List (Nat × Nat)) (h : Ho) (most : Int) (hm : 0 ≤ most ∧ most ≤ 1000000) (hl : h.holds.length ≤ 1000) :
  VC Try.prog 30 [.ptr d 0, houseV h, vi most] ⟨DH H0 d u [], lg⟩ (fun r M' => M' = ⟨DH H0 d (spreadSt u most h.holds.length).1 [], lg⟩ ∧ r = intsV (spreadSt u most h.holds.length).2) := by
 have km : -9223372036854775808 ≤ most + 1 ∧ most + 1 < 9223372036854775808 := by omega
 refine VC_own' T_ok (f := 30) (fn := Try.f30) (by kernel_rfl) rfl Try.ntmps30 (by rfl) (by rfl) ?_
 ((repeat refine Ws ?_);refine Wr ?_)
 simp (maxSteps := 1000000) only [VL,VM,↓VG,reduceIte,reduceCtorEq,zA,zB,zC,zD,zE,zF,zG,zH,zI,zJ, DH_app hd, DH_len, DH_len0, DH_get hd, DH_get0 hd, DH_set hd, DH_set0 hd, DH_setd, DH_die hd]
 ((repeat refine Ws ?_);refine Wr ?_)
 simp (maxSteps := 1000000) only [VL,VM,↓VG,reduceIte,reduceCtorEq,zA,zB,zC,zD,zE,zF,zG,zH,zI,zJ, DH_app hd, DH_len, DH_len0, DH_get hd, DH_get0 hd, DH_set hd, DH_set0 hd, DH_setd, DH_die hd]
 (repeat refine Ws ?_)
 refine W_tok (t := 7) (k := 1) rfl ?_
 simp (maxSteps := 1000000) only [VL,VM,↓VG,reduceIte,reduceCtorEq,zA,zB,zC,zD,zE,zF,zG,zH,zI,zJ, DH_app hd, DH_len, DH_len0, DH_get hd, DH_get0 hd, DH_set hd, DH_set0 hd, DH_setd, DH_die hd]
 ((repeat refine Ws ?_);refine Wr ?_)
 simp (maxSteps := 1000000) only [VL,VM,↓VG,reduceIte,reduceCtorEq,zA,zB,zC,zD,zE,zF,zG,zH,zI,zJ, DH_app hd, DH_len, DH_len0, DH_get hd, DH_get0 hd, DH_set hd, DH_set0 hd, DH_setd, DH_die hd]
 ((repeat refine Ws ?_);refine W_block ?_; (repeat refine Ws ?_)); refine W_loopS (fun i : Nat => [(0, .ptr d 0), (2, vi most), (4, .ptr H0.length 0), (7, .so (H0.length + 1) 1 ((spreadSt u most i).2.map intP)), (8, vi i)]) (fun i => ⟨DH H0 d (spreadSt u most i).1 [.obj (houseC h), .clm (spreadSt u most i).2.length 1], lg⟩) (fun i => h.holds.length - i) (fun i => i ≤ h.holds.length) 0 (Nat.zero_le _) ⟨rfl, rfl, rfl, rfl, rfl, trivial⟩ rfl ?_
 intro i hi
 have k1 : -9223372036854775808 ≤ (i : Int) + 1 ∧ (i : Int) + 1 < 9223372036854775808 := by omega
 have hb := (spread_bd u hm i).1
 have q1 : (((spreadSt u most i).2.length + 1) * 8 ≤ 140737488355328) = True := eq_true (by omega)
 have hst : spreadSt u most (i + 1) = (oneU (castU (spreadSt u most i).1 (most + 1)) [0, castF (spreadSt u most i).1 (most + 1)], (spreadSt u most i).2 ++ [oneF (castU (spreadSt u most i).1 (most + 1)) [0, castF (spreadSt u most i).1 (most + 1)]]) := rfl
 ((repeat refine Ws ?_);refine Wr ?_)
 rcases Nat.lt_or_ge i h.holds.length with hlt | hge
 ·have k2 : ((i : Int) < (h.holds.length : Int)) = True := eq_true (by omega)
  generalize spreadSt u most i = st at hst q1 ⊢
  obtain ⟨v, l⟩ := st
  simp (maxSteps := 1000000) only [VL,VM,↓VG,reduceIte,reduceCtorEq,zA,zB,zC,zD,zE,zF,zG,zH,zI,zJ, DH_app hd, DH_len, DH_len0, DH_get hd, DH_get0 hd, DH_set hd, DH_set0 hd, DH_setd, DH_die hd, k2]
  ((repeat refine Ws ?_);refine Wt (by first|rfl|simp only [EV,zF,reduceIte]) ?_)
  ((repeat refine Ws ?_);refine W_skip ?_)
  simp (maxSteps := 1000000) only [VL,VM,↓VG,reduceIte,reduceCtorEq,zA,zB,zC,zD,zE,zF,zG,zH,zI,zJ]
  ((repeat refine Ws ?_);refine W_block ?_)
  ((repeat refine Ws ?_);refine Wr ?_)
  simp (maxSteps := 1000000) only [VL,VM,↓VG,reduceIte,reduceCtorEq,zA,zB,zC,zD,zE,zF,zG,zH,zI,zJ, km]
  apply call_eq (f := 45) (fn := Try.f45) (by kernel_rfl) (by rfl)
  ·exact cast_c hd v (most + 1) lg (by omega)
  simp (maxSteps := 1000000) only [VL,VM,↓VG,reduceIte,reduceCtorEq,zA,zB,zC,zD,zE,zF,zG,zH,zI,zJ]
  apply call_eq (f := 28) (fn := Try.f28) (by kernel_rfl) (by rfl)
  ·exact one_c hd (castU v (most + 1)) [0, castF v (most + 1)] lg (by simp) (by simp)
  simp (maxSteps := 1000000) only [VL,VM,↓VG,reduceIte,reduceCtorEq,zA,zB,zC,zD,zE,zF,zG,zH,zI,zJ, DH_app hd, DH_len, DH_len0, DH_get hd, DH_get0 hd, DH_set hd, DH_set0 hd, DH_setd, DH_die hd, q1]
  ((repeat refine Ws ?_);refine Wr ?_)
  simp (maxSteps := 1000000) only [VL,VM,↓VG,reduceIte,reduceCtorEq,zA,zB,zC,zD,zE,zF,zG,zH,zI,zJ, k1]
  refine LoopK.mk (i + 1) (by omega) (by omega) ⟨rfl, rfl, rfl, ?_, rfl, trivial⟩ ?_
  ·rw [hst]; simp [get_cons]
  ·rw [hst]; simp
 have k2 : ((i : Int) < (h.holds.length : Int)) = False := eq_false (by omega)
 have hi3 : i = h.holds.length := by omega
 subst hi3
 simp (maxSteps := 1000000) only [VL,VM,↓VG,reduceIte,reduceCtorEq,zA,zB,zC,zD,zE,zF,zG,zH,zI,zJ, DH_app hd, DH_len, DH_len0, DH_get hd, DH_get0 hd, DH_set hd, DH_set0 hd, DH_setd, DH_die hd, k2]
 ((repeat refine Ws ?_);refine Wf (by first|rfl|simp only [EV,zF,reduceIte]) ?_)
 ((repeat refine Ws ?_);refine W_exit ?_)
 simp (maxSteps := 1000000) only [VL,VM,↓VG,reduceIte,reduceCtorEq,zA,zB,zC,zD,zE,zF,zG,zH,zI,zJ]
 ((repeat refine Ws ?_);refine Wr ?_)
 simp (maxSteps := 1000000) only [VL,VM,↓VG,reduceIte,reduceCtorEq,zA,zB,zC,zD,zE,zF,zG,zH,zI,zJ]
 (repeat refine Ws ?_)
 refine W_ret ?_
 try simp only [thenQ, blockQ]
 refine own_retD hd rfl ?_ (by rfl)
 simp only [get_cons, frz, vtup, Nat.reduceEqDiff, if_true, if_false, reduceIte]
end Go.Proofs.Ytmagiabapakhcaa.Vm

/- Whether those who are inside are safe, on values. (Vm) -/
namespace Go.Proofs.Ytmagiabapakhcaa
end Go.Proofs.Ytmagiabapakhcaa
namespace Go.Proofs.Ytmagiabapakhcaa.Vm
open Go Go.Proofs
end Go.Proofs.Ytmagiabapakhcaa.Vm

/- The law of what truly went by the doors, on values. (Vm) -/
namespace Go.Proofs.Ytmagiabapakhcaa.Vm
open Go Go.Proofs
theorem DH_tail (M : Mem) (u : Int) (L : List VObj) : DH (M.H ++ [.dead]) M.H.length u L = M.H ++ (.obj [uv u] :: L) := by
 unfold DH
 rw [List.append_assoc]
 have := hset0 M.H ([.dead] ++ L) (.obj [uv u])
 rw [this]
 rfl
end Go.Proofs.Ytmagiabapakhcaa.Vm
