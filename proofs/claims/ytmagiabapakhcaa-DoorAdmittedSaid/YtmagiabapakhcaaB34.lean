/- A part of the proofs about the chapter of the doors; it states no condition of its own. -/
import Derived.Test.YtmagiabapakhcaaB14
import Derived.Test.YtmagiabapakhcaaB21
import Derived.Test.YtmagiabapakhcaaB29
import Derived.Test.YtmagiabapakhcaaB30
import Derived.Test.YtmagiabapakhcaaB31
import Derived.Test.YtmagiabapakhcaaB32
set_option linter.unusedVariables false
set_option linter.unusedSimpArgs false
open Int renaming reduceLE → zA, reduceLT → zB, reduceToNat → zC, reduceNeg → zD
open Nat renaming reduceLT → zE, reduceEqDiff → zF, reduceAdd → zG, reduceSub → zH, reduceMul → zI, reduceLeDiff → zJ
/- Whatever truly went by the doors, plain. -/
namespace Go.Proofs.Ytmagiabapakhcaa
end Go.Proofs.Ytmagiabapakhcaa

/- Doors that are shut, and people that are spread, made of numbers, on values. (Vm) -/
namespace Go.Proofs.Ytmagiabapakhcaa.Vm
open Go Go.Proofs
attribute [local irreducible] castF castU fromF fromU oneF oneU
def shutSt (u : Int) : Nat → Int × List Int
 | 0 => (u, [])
 | i + 1 => (castU (shutSt u i).1 4, if onceF (shutSt u i).1 4 then (shutSt u i).2 ++ [(i : Int)] else (shutSt u i).2)
theorem shut_bd (u : Int) : ∀ n : Nat, (shutSt u n).2.length ≤ n ∧ (∀ x ∈ (shutSt u n).2, 0 ≤ x ∧ x < (n : Int)) ∧ (shutSt u n).2.Pairwise (· < ·)
 | 0 => by simp [shutSt]
 | n + 1 => by
  obtain ⟨h1, h2, h3⟩ := shut_bd u n
  simp only [shutSt]
  split
  ·refine ⟨by simp; omega, fun x hx => ?_, ?_⟩
   ·rcases List.mem_append.1 hx with hx | hx
    ·have := h2 x hx; omega
    ·rw [List.mem_singleton] at hx; omega
   ·rw [List.pairwise_append]
    refine ⟨h3, by simp, fun a ha b hb => ?_⟩
    rw [List.mem_singleton] at hb
    have := h2 a ha
    omega
  ·exact ⟨by omega, fun x hx => by have := h2 x hx; omega, h3⟩
theorem clErr_ok {n : Nat} : ∀ (l : List Int) (p : Option Int), (∀ x ∈ l, 0 ≤ x ∧ x < (n : Int)) → l.Pairwise (· < ·) → (∀ q, p = some q → ∀ x ∈ l, q < x) → clErr n p l = 0
 | [], _, _, _, _ => rfl
 | d :: l, p, h1, h2, h3 => by
  have hd := h1 d (by simp)
  rw [List.pairwise_cons] at h2
  have hp : p.any (fun q => decide (d ≤ q)) = false := by
   cases p with
   | none => rfl
   | some q =>
    have := h3 q rfl d (by simp)
    simp only [Option.any_some, decide_eq_false_iff_not]
    omega
  rw [clErr, if_pos (by rw [inR_true]; omega), hp, if_neg (by decide)]
  exact clErr_ok l (some d) (fun x hx => h1 x (by simp [hx])) h2.2 (fun q hq x hx => by cases hq; exact h2.1 x hx)
theorem shut_ok (u : Int) (n : Nat) : closedErr n (shutSt u n).2 = 0 := by
 obtain ⟨h1, h2, h3⟩ := shut_bd u n
 exact clErr_ok _ _ h2 h3 (fun q hq => by cases hq)
theorem shutOf_v {H0 : List VObj} {d : Nat} (hd : d < H0.length) (u : Int) (lg : List (Nat × Nat)) (h : Ho) (hl : h.doors.length ≤ 1000) :
  VC Try.prog 29 [.ptr d 0, houseV h] ⟨DH H0 d u [], lg⟩ (fun r M' => M' = ⟨DH H0 d (shutSt u h.doors.length).1 [], lg⟩ ∧ r = intsV (shutSt u h.doors.length).2) := by
 refine VC_own' T_ok (f := 29) (fn := Try.f29) (by kernel_rfl) rfl Try.ntmps29 (by rfl) (by rfl) ?_
 ((repeat refine Ws ?_);refine Wr ?_)
 simp (maxSteps := 1000000) only [VL,VM,↓VG,reduceIte,reduceCtorEq,zA,zB,zC,zD,zE,zF,zG,zH,zI,zJ, DH_app hd, DH_len, DH_len0, DH_get hd, DH_get0 hd, DH_set hd, DH_set0 hd, DH_setd, DH_die hd]
 ((repeat refine Ws ?_);refine Wr ?_)
 simp (maxSteps := 1000000) only [VL,VM,↓VG,reduceIte,reduceCtorEq,zA,zB,zC,zD,zE,zF,zG,zH,zI,zJ, DH_app hd, DH_len, DH_len0, DH_get hd, DH_get0 hd, DH_set hd, DH_set0 hd, DH_setd, DH_die hd]
 (repeat refine Ws ?_)
 refine W_tok (t := 5) (k := 1) rfl ?_
 simp (maxSteps := 1000000) only [VL,VM,↓VG,reduceIte,reduceCtorEq,zA,zB,zC,zD,zE,zF,zG,zH,zI,zJ, DH_app hd, DH_len, DH_len0, DH_get hd, DH_get0 hd, DH_set hd, DH_set0 hd, DH_setd, DH_die hd]
 ((repeat refine Ws ?_);refine Wr ?_)
 simp (maxSteps := 1000000) only [VL,VM,↓VG,reduceIte,reduceCtorEq,zA,zB,zC,zD,zE,zF,zG,zH,zI,zJ, DH_app hd, DH_len, DH_len0, DH_get hd, DH_get0 hd, DH_set hd, DH_set0 hd, DH_setd, DH_die hd]
 ((repeat refine Ws ?_);refine W_block ?_; (repeat refine Ws ?_)); refine W_loopS (fun i : Nat => [(0, .ptr d 0), (3, .ptr H0.length 0), (5, .so (H0.length + 1) 1 ((shutSt u i).2.map intP)), (6, vi i)]) (fun i => ⟨DH H0 d (shutSt u i).1 [.obj (houseC h), .clm (shutSt u i).2.length 1], lg⟩) (fun i => h.doors.length - i) (fun i => i ≤ h.doors.length) 0 (Nat.zero_le _) ⟨rfl, rfl, rfl, rfl, trivial⟩ rfl ?_
 intro i hi
 have k1 : -9223372036854775808 ≤ (i : Int) + 1 ∧ (i : Int) + 1 < 9223372036854775808 := by omega
 have hb := (shut_bd u i).1
 have q1 : (((shutSt u i).2.length + 1) * 8 ≤ 140737488355328) = True := eq_true (by omega)
 have hst : shutSt u (i + 1) = (castU (shutSt u i).1 4, if onceF (shutSt u i).1 4 then (shutSt u i).2 ++ [(i : Int)] else (shutSt u i).2) := rfl
 ((repeat refine Ws ?_);refine Wr ?_)
 rcases Nat.lt_or_ge i h.doors.length with hlt | hge
 ·have k2 : ((i : Int) < (h.doors.length : Int)) = True := eq_true (by omega)
  generalize shutSt u i = st at hst q1 ⊢
  obtain ⟨v, l⟩ := st
  simp (maxSteps := 1000000) only [VL,VM,↓VG,reduceIte,reduceCtorEq,zA,zB,zC,zD,zE,zF,zG,zH,zI,zJ, DH_app hd, DH_len, DH_len0, DH_get hd, DH_get0 hd, DH_set hd, DH_set0 hd, DH_setd, DH_die hd, k2]
  ((repeat refine Ws ?_);refine Wt (by first|rfl|simp only [EV,zF,reduceIte]) ?_)
  ((repeat refine Ws ?_);refine W_skip ?_)
  simp (maxSteps := 1000000) only [VL,VM,↓VG,reduceIte,reduceCtorEq,zA,zB,zC,zD,zE,zF,zG,zH,zI,zJ]
  ((repeat refine Ws ?_);refine W_block ?_)
  ((repeat refine Ws ?_);refine Wr ?_)
  simp (maxSteps := 1000000) only [VL,VM,↓VG,reduceIte,reduceCtorEq,zA,zB,zC,zD,zE,zF,zG,zH,zI,zJ]
  apply call_eq (f := 44) (fn := Try.f44) (by kernel_rfl) (by rfl)
  ·exact once_c hd v 4 lg (by omega)
  simp (maxSteps := 1000000) only [VL,VM,↓VG,reduceIte,reduceCtorEq,zA,zB,zC,zD,zE,zF,zG,zH,zI,zJ]
  cases ho : onceF v 4
  ·rw [ho, if_neg (by decide)] at hst
   ((repeat refine Ws ?_);refine Wf (by first|rfl|simp only [EV,zF,reduceIte]) ?_)
   ((repeat refine Ws ?_);refine W_skip ?_)
   simp (maxSteps := 1000000) only [VL,VM,↓VG,reduceIte,reduceCtorEq,zA,zB,zC,zD,zE,zF,zG,zH,zI,zJ]
   ((repeat refine Ws ?_);refine Wr ?_)
   simp (maxSteps := 1000000) only [VL,VM,↓VG,reduceIte,reduceCtorEq,zA,zB,zC,zD,zE,zF,zG,zH,zI,zJ, k1]
   refine LoopK.mk (i + 1) (by omega) (by omega) ⟨rfl, rfl, ?_, rfl, trivial⟩ ?_
   ·rw [hst]; rfl
   ·rw [hst]
  ·rw [ho, if_pos rfl] at hst
   ((repeat refine Ws ?_);refine Wt (by first|rfl|simp only [EV,zF,reduceIte]) ?_)
   ((repeat refine Ws ?_);refine Wr ?_)
   simp (maxSteps := 1000000) only [VL,VM,↓VG,reduceIte,reduceCtorEq,zA,zB,zC,zD,zE,zF,zG,zH,zI,zJ, DH_app hd, DH_len, DH_len0, DH_get hd, DH_get0 hd, DH_set hd, DH_set0 hd, DH_setd, DH_die hd, q1]
   ((repeat refine Ws ?_);refine Wr ?_)
   simp (maxSteps := 1000000) only [VL,VM,↓VG,reduceIte,reduceCtorEq,zA,zB,zC,zD,zE,zF,zG,zH,zI,zJ, k1]
   refine LoopK.mk (i + 1) (by omega) (by omega) ⟨rfl, rfl, ?_, rfl, trivial⟩ ?_
   ·rw [hst]; simp [get_cons]
   ·rw [hst]; simp
 have k2 : ((i : Int) < (h.doors.length : Int)) = False := eq_false (by omega)
 have hi3 : i = h.doors.length := by omega
 subst hi3
 simp (maxSteps := 1000000) only [VL,VM,↓VG,reduceIte,reduceCtorEq,zA,zB,zC,zD,zE,zF,zG,zH,zI,zJ, DH_app hd, DH_len, DH_len0, DH_get hd, DH_get0 hd, DH_set hd, DH_set0 hd, DH_setd, DH_die hd, k2]
 ((repeat refine Ws ?_);refine Wf (by first|rfl|simp only [EV,zF,reduceIte]) ?_)
 ((repeat refine Ws ?_);refine W_exit ?_)
 simp (maxSteps := 1000000) only [VL,VM,↓VG,reduceIte,reduceCtorEq,zA,zB,zC,zD,zE,zF,zG,zH,zI,zJ]
 ((repeat refine Ws ?_);refine Wr ?_)
 simp (maxSteps := 1000000) only [VL,VM,↓VG,reduceIte,reduceCtorEq,zA,zB,zC,zD,zE,zF,zG,zH,zI,zJ]
 (repeat refine Ws ?_)
 refine W_ret ?_
 try simp only [thenQ, blockQ]
 refine own_retD hd rfl ?_ (by rfl)
 simp only [get_cons, frz, vtup, Nat.reduceEqDiff, if_true, if_false, reduceIte]
end Go.Proofs.Ytmagiabapakhcaa.Vm

/- Whether those who are inside are safe, on values. (Vm) -/
namespace Go.Proofs.Ytmagiabapakhcaa
theorem ticksErr_ok {h : Ho} {at_ ticks : Int} {closed : List Int} : ticksErr h at_ ticks closed = 0 ↔ HV h ∧ (0 ≤ at_ ∧ at_ ≤ h.ticks) ∧ (0 ≤ ticks ∧ ticks ≤ 12) ∧ closedErr h.doors.length closed = 0 := by
 unfold ticksErr
 constructor
 ·intro e
  split at e
  ·rename_i h1
   split at e
   ·rename_i h2
    simp only [Bool.and_eq_true, inR_true] at h2
    exact ⟨houseErr_ok.1 h1, h2.1, h2.2, e⟩
   ·simp at e
  ·rename_i h1; exact absurd e h1
 ·rintro ⟨h1, h2, h3, h4⟩
  rw [if_pos (houseErr_ok.2 h1), if_pos (by simp only [Bool.and_eq_true, inR_true]; exact ⟨h2, h3⟩)]
  exact h4
end Go.Proofs.Ytmagiabapakhcaa
namespace Go.Proofs.Ytmagiabapakhcaa.Vm
open Go Go.Proofs
end Go.Proofs.Ytmagiabapakhcaa.Vm

/- The law of what truly went by the doors, on values. (Vm) -/
namespace Go.Proofs.Ytmagiabapakhcaa.Vm
open Go Go.Proofs
theorem DH_tail (M : Mem) (u : Int) (L : List VObj) : DH (M.H ++ [.dead]) M.H.length u L = M.H ++ (.obj [uv u] :: L) := by
 unfold DH
 rw [List.append_assoc]
 have := hset0 M.H ([.dead] ++ L) (.obj [uv u])
 rw [this]
 rfl
end Go.Proofs.Ytmagiabapakhcaa.Vm
