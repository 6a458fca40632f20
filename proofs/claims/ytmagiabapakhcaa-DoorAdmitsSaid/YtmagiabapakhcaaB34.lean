/- A part of the proofs about the chapter of the doors; it states no condition of its own. -/
import Derived.Test.YtmagiabapakhcaaB14
import Derived.Test.YtmagiabapakhcaaB21
import Derived.Test.YtmagiabapakhcaaB29
import Derived.Test.YtmagiabapakhcaaB30
import Derived.Test.YtmagiabapakhcaaB31
import Derived.Test.YtmagiabapakhcaaB32
set_option linter.unusedVariables false
set_option linter.unusedSimpArgs false
open Int renaming reduceLE → zA, reduceLT → zB, reduceToNat → zC, reduceNeg → zD
open Nat renaming reduceLT → zE, reduceEqDiff → zF, reduceAdd → zG, reduceSub → zH, reduceMul → zI, reduceLeDiff → zJ
/- Whatever truly went by the doors, plain. -/
namespace Go.Proofs.Ytmagiabapakhcaa
end Go.Proofs.Ytmagiabapakhcaa

/- Doors that are shut, and people that are spread, made of numbers, on values. (Vm) -/
namespace Go.Proofs.Ytmagiabapakhcaa.Vm
open Go Go.Proofs
attribute [local irreducible] castF castU fromF fromU oneF oneU
def shutSt (u : Int) : Nat → Int × List Int
 | 0 => (u, [])
 | i + 1 => (castU (shutSt u i).1 4, if onceF (shutSt u i).1 4 then (shutSt u i).2 ++ [(i : Int)] else (shutSt u i).2)
theorem shut_bd (u : Int) : ∀ n : Nat, (shutSt u n).2.length ≤ n ∧ (∀ x ∈ (shutSt u n).2, 0 ≤ x ∧ x < (n : Int)) ∧ (shutSt u n).2.Pairwise (· < ·)
 | 0 => by simp [shutSt]
 | n + 1 => by
  obtain ⟨h1, h2, h3⟩ := shut_bd u n
  simp only [shutSt]
  split
  ·refine ⟨by simp; omega, fun x hx => ?_, ?_⟩
   ·rcases List.mem_append.1 hx with hx | hx
    ·have := h2 x hx; omega
    ·rw [List.mem_singleton] at hx; omega
   ·rw [List.pairwise_append]
    refine ⟨h3, by simp, fun a ha b hb => ?_⟩
    rw [List.mem_singleton] at hb
    have := h2 a ha
    omega
  ·exact ⟨by omega, fun x hx => by have := h2 x hx; omega, h3⟩
theorem shutOf_v {H0 : List VObj} {d : Nat} (hd : d < H0.length) (u : Int) (lg : List (Nat × Nat)) (h : Ho) (hl : h.doors.length ≤ 1000) :
  VC Try.prog 29 [.ptr d 0, houseV h] ⟨DH H0 d u [], lg⟩ (fun r M' => M' = ⟨DH H0 d (shutSt u h.doors.length).1 [], lg⟩ ∧ r = intsV (shutSt u h.doors.length).2) := by
 refine VC_own' T_ok (f := 29) (fn := Try.f29) (by kernel_rfl) rfl Try.ntmps29 (by rfl) (by rfl) ?_
 ((repeat refine Ws ?_);refine Wr ?_)
 simp (maxSteps := 1000000) only [VL,VM,↓VG,reduceIte,reduceCtorEq,zA,zB,zC,zD,zE,zF,zG,zH,zI,zJ, DH_app hd, DH_len, DH_len0, DH_get hd, DH_get0 hd, DH_set hd, DH_set0 hd, DH_setd, DH_die hd]
 ((repeat refine Ws ?_);refine Wr ?_)
 simp (maxSteps := 1000000) only [VL,VM,↓VG,reduceIte,reduceCtorEq,zA,zB,zC,zD,zE,zF,zG,zH,zI,zJ, DH_app hd, DH_len, DH_len0, DH_get hd, DH_get0 hd, DH_set hd, DH_set0 hd, DH_setd, DH_die hd]
 (repeat refine Ws ?_)
 refine W_tok (t := 5) (k := 1) rfl ?_
 simp (maxSteps := 1000000) only [VL,VM,↓VG,reduceIte,reduceCtorEq,zA,zB,zC,zD,zE,zF,zG,zH,zI,zJ, DH_app hd, DH_len, DH_len0, DH_get hd, DH_get0 hd, DH_set hd, DH_set0 hd, DH_setd, DH_die hd]
 ((repeat refine Ws ?_);refine Wr ?_)
 simp (maxSteps := 1000000) only [VL,VM,↓VG,reduceIte,reduceCtorEq,zA,zB,zC,zD,zE,zF,zG,zH,zI,zJ, DH_app hd, DH_len, DH_len0, DH_get hd, DH_get0 hd, DH_set hd, DH_set0 hd, DH_setd, DH_die hd]
 ((repeat refine Ws ?_);refine W_block ?_; (repeat refine Ws ?_)); refine W_loopS (fun i : Nat => [(0, .ptr d 0), (3, .ptr H0.length 0), (5, .so (H0.length + 1) 1 ((shutSt u i).2.map intP)), (6, vi i)]) (fun i => ⟨DH H0 d (shutSt u i).1 [.obj (houseC h), .clm (shutSt u i).2.length 1], lg⟩) (fun i => h.doors.length - i) (fun i => i ≤ h.doors.length) 0 (Nat.zero_le _) ⟨rfl, rfl, rfl, rfl, trivial⟩ rfl ?_
 intro i hi
 have k1 : -9223372036854775808 ≤ (i : Int) + 1 ∧ (i : Int) + 1 < 9223372036854775808 := by omega
 have hb := (shut_bd u i).1
 have q1 : (((shutSt u i).2.length + 1) * 8 ≤ 140737488355328) = True := eq_true (by omega)
 have hst : shutSt u (i + 1) = (castU (shutSt u i).1 4, if onceF (shutSt u i).1 4 then (shutSt u i).2 ++ [(i : Int)] else (shutSt u i).2) := rfl
 ((repeat refine Ws ?_);refine Wr ?_)
 rcases Nat.lt_or_ge i h.doors.length with hlt | hge
 ·have k2 : ((i : Int) < (h.doors.length : Int)) = True := eq_true (by omega)
  generalize shutSt u i = st at hst q1 ⊢
  obtain ⟨v, l⟩ := st
  simp (maxSteps := 1000000) only [VL,VM,↓VG,reduceIte,reduceCtorEq,zA,zB,zC,zD,zE,zF,zG,zH,zI,zJ, DH_app hd, DH_len, DH_len0, DH_get hd, DH_get0 hd, DH_set hd, DH_set0 hd, DH_setd, DH_die hd, k2]
  ((repeat refine Ws ?_);refine Wt (by first|rfl|simp only [EV,zF,reduceIte]) ?_)
  ((repeat refine Ws ?_);refine W_skip ?_)
  simp (maxSteps := 1000000) only [VL,VM,↓VG,reduceIte,reduceCtorEq,zA,zB,zC,zD,zE,zF,zG,zH,zI,zJ]
  ((repeat refine Ws ?_);refine W_block ?_)
  ((repeat refine Ws ?_);refine Wr ?_)
  simp (maxSteps := 1000000) only [VL,VM,↓VG,reduceIte,reduceCtorEq,zA,zB,zC,zD,zE,zF,zG,zH,zI,zJ]
  apply call_eq (f := 44) (fn := Try.f44) (by kernel_rfl) (by rfl)
  ·exact once_c hd v 4 lg (by omega)
  simp (maxSteps := 1000000) only [VL,VM,↓VG,reduceIte,reduceCtorEq,zA,zB,zC,zD,zE,zF,zG,zH,zI,zJ]
  cases ho : onceF v 4
  ·rw [ho, if_neg (by decide)] at hst
   ((repeat refine Ws ?_);refine Wf (by first|rfl|simp only [EV,zF,reduceIte]) ?_)
   ((repeat refine Ws ?_);refine W_skip ?_)
   simp (maxSteps := 1000000) only [VL,VM,↓VG,reduceIte,reduceCtorEq,zA,zB,zC,zD,zE,zF,zG,zH,zI,zJ]
   ((repeat refine Ws ?_);refine Wr ?_)
   simp (maxSteps := 1000000) only [VL,VM,↓VG,reduceIte,reduceCtorEq,zA,zB,zC,zD,zE,zF,zG,zH,zI,zJ, k1]
   refine LoopK.mk (i + 1) (by omega) (by omega) ⟨rfl, rfl, ?_, rfl, trivial⟩ ?_
   ·rw [hst]; rfl
   ·rw [hst]
  ·rw [ho, if_pos rfl] at hst
   ((repeat refine Ws ?_);refine Wt (by first|rfl|simp only [EV,zF,reduceIte]) ?_)
   ((repeat refine Ws ?_);refine Wr ?_)
   simp (maxSteps := 1000000) only [VL,VM,↓VG,reduceIte,reduceCtorEq,zA,zB,zC,zD,zE,zF,zG,zH,zI,zJ, DH_app hd, DH_len, DH_len0, DH_get hd, DH_get0 hd, DH_set hd, DH_set0 hd, DH_setd, DH_die hd, q1]
   ((repeat refine Ws ?_);refine Wr ?_)
   simp (maxSteps := 1000000) only [VL,VM,↓VG,reduceIte,reduceCtorEq,zA,zB,zC,zD,zE,zF,zG,zH,zI,zJ, k1]
   refine LoopK.mk (i + 1) (by omega) (by omega) ⟨rfl, rfl, ?_, rfl, trivial⟩ ?_
   ·rw [hst]; simp [get_cons]
   ·rw [hst]; simp
 have k2 : ((i : Int) < (h.doors.length : Int)) = False := eq_false (by omega)
 have hi3 : i = h.doors.length := by omega
 subst hi3
 simp (maxSteps := 1000000) only [VL,VM,↓VG,reduceIte,reduceCtorEq,zA,zB,zC,zD,zE,zF,zG,zH,zI,zJ, DH_app hd, DH_len, DH_len0, DH_get hd, DH_get0 hd, DH_set hd, DH_set0 hd, DH_setd, DH_die hd, k2]
 ((repeat refine Ws ?_);refine Wf (by first|rfl|simp only [EV,zF,reduceIte]) ?_)
 ((repeat refine Ws ?_);refine W_exit ?_)
 simp (maxSteps := 1000000) only [VL,VM,↓VG,reduceIte,reduceCtorEq,zA,zB,zC,zD,zE,zF,zG,zH,zI,zJ]
 ((repeat refine Ws ?_);refine Wr ?_)
 simp (maxSteps := 1000000) only [VL,VM,↓VG,reduceIte,reduceCtorEq,zA,zB,zC,zD,zE,zF,zG,zH,zI,zJ]
 (repeat refine Ws ?_)
 refine W_ret ?_
 try simp only [thenQ, blockQ]
 refine own_retD hd rfl ?_ (by rfl)
 simp only [get_cons, frz, vtup, Nat.reduceEqDiff, if_true, if_false, reduceIte]
end Go.Proofs.Ytmagiabapakhcaa.Vm

/- Whether those who are inside are safe, on values. (Vm) -/
namespace Go.Proofs.Ytmagiabapakhcaa
def safeV (x : Sp) (av : Int) : Int × Int := if x.hi ≤ av then (1, 0) else if av < x.lo then (2, 0) else (3, 0)
noncomputable def safeR (h : Ho) (at_ ticks : Int) (closed : List Int) : Int × Int :=
 if ticksErr h at_ ticks closed = 0 then (match insideH h with
  | none => (0, 9)
  | some l => safeV (l.getD at_.toNat ⟨0, 0⟩) (admitV h ticks.toNat closed)) else (0, ticksErr h at_ ticks closed)
theorem ticksErr_ok {h : Ho} {at_ ticks : Int} {closed : List Int} : ticksErr h at_ ticks closed = 0 ↔ HV h ∧ (0 ≤ at_ ∧ at_ ≤ h.ticks) ∧ (0 ≤ ticks ∧ ticks ≤ 12) ∧ closedErr h.doors.length closed = 0 := by
 unfold ticksErr
 constructor
 ·intro e
  split at e
  ·rename_i h1
   split at e
   ·rename_i h2
    simp only [Bool.and_eq_true, inR_true] at h2
    exact ⟨houseErr_ok.1 h1, h2.1, h2.2, e⟩
   ·simp at e
  ·rename_i h1; exact absurd e h1
 ·rintro ⟨h1, h2, h3, h4⟩
  rw [if_pos (houseErr_ok.2 h1), if_pos (by simp only [Bool.and_eq_true, inR_true]; exact ⟨h2, h3⟩)]
  exact h4
theorem insideH_len {h : Ho} {l : List Sp} (hi : insideH h = some l) : l.length = h.ticks.toNat + 1 := by
 unfold insideH at hi
 split at hi
 ·cases hi
 ·have := Option.some.inj hi
  rw [← this]
  simp [insideL]
end Go.Proofs.Ytmagiabapakhcaa
namespace Go.Proofs.Ytmagiabapakhcaa.Vm
open Go Go.Proofs
set_option maxHeartbeats 1000000 in
set_option maxRecDepth 8000 in
theorem Safe_v (h : Ho) (at_ ticks : Int) (closed : List Int) (M : Mem) (hl : h.holds.length ≤ 1000000) (hld : h.doors.length ≤ 1000000) (hlc : h.counts.length ≤ 1000000) (hc : closed.length ≤ 1000000) : VC Try.prog 58 [houseV h, vi at_, vi ticks, intsV closed] M (fun r M' => M' = M ∧ r = .tup [vi (safeR h at_ ticks closed).1, vi (safeR h at_ ticks closed).2]) := by
 refine VC_own' T_ok (f := 58) (fn := Try.f58) (by kernel_rfl) rfl Try.ntmps58 (by rfl) (by rfl) ?_
 ((repeat refine Ws ?_);refine Wr ?_)
 simp (maxSteps := 1000000) only [VL,VM,↓VG,reduceIte,reduceCtorEq,zA,zB,zC,zD,zE,zF,zG,zH,zI,zJ]
 ((repeat refine Ws ?_);refine Wr ?_)
 simp (maxSteps := 1000000) only [VL,VM,↓VG,reduceIte,reduceCtorEq,zA,zB,zC,zD,zE,zF,zG,zH,zI,zJ]
 apply call_eq (f := 91) (fn := Try.f91) (by kernel_rfl) (by rfl)
 ·exact ticks_v h at_ ticks closed _ hl hld hlc hc
 simp (maxSteps := 1000000) only [VL,VM,↓VG,reduceIte,reduceCtorEq,zA,zB,zC,zD,zE,zF,zG,zH,zI,zJ]
 ((repeat refine Ws ?_);refine Wr ?_)
 by_cases a1 : ticksErr h at_ ticks closed = 0
 rotate_left
 ·simp (maxSteps := 1000000) only [VL,VM,↓VG,reduceIte,reduceCtorEq,zA,zB,zC,zD,zE,zF,zG,zH,zI,zJ, a1]
  ((repeat refine Ws ?_);refine Wt (by first|rfl|simp only [EV,zF,reduceIte]) ?_)
  ((repeat refine Ws ?_);refine Wr ?_)
  simp (maxSteps := 1000000) only [VL,VM,↓VG,reduceIte,reduceCtorEq,zA,zB,zC,zD,zE,zF,zG,zH,zI,zJ]
  (repeat refine Ws ?_)
  refine W_ret ?_
  try simp only [thenQ, blockQ]
  refine own_ret2 rfl rfl rfl ?_ ?_
  ·unfold safeR; rw [if_neg a1]
  ·unfold safeR; rw [if_neg a1]
 obtain ⟨HV, h2, h3, h4⟩ := ticksErr_ok.1 a1
 have eR : safeR h at_ ticks closed = (match insideH h with
  | none => (0, 9)
  | some l => safeV (l.getD at_.toNat ⟨0, 0⟩) (admitV h ticks.toNat closed)) := by unfold safeR; rw [if_pos a1]
 obtain ⟨n, rfl⟩ : ∃ n : Nat, ticks = (n : Int) := ⟨ticks.toNat, by omega⟩
 obtain ⟨m, rfl⟩ : ∃ m : Nat, at_ = (m : Int) := ⟨at_.toNat, by omega⟩
 simp (maxSteps := 1000000) only [VL,VM,↓VG,reduceIte,reduceCtorEq,zA,zB,zC,zD,zE,zF,zG,zH,zI,zJ, a1]
 ((repeat refine Ws ?_);refine Wf (by first|rfl|simp only [EV,zF,reduceIte]) ?_)
 ((repeat refine Ws ?_);refine W_skip ?_)
 simp (maxSteps := 1000000) only [VL,VM,↓VG,reduceIte,reduceCtorEq,zA,zB,zC,zD,zE,zF,zG,zH,zI,zJ]
 ((repeat refine Ws ?_);refine Wr ?_)
 simp (maxSteps := 1000000) only [VL,VM,↓VG,reduceIte,reduceCtorEq,zA,zB,zC,zD,zE,zF,zG,zH,zI,zJ]
 apply call_eq (f := 65) (fn := Try.f65) (by kernel_rfl) (by rfl)
 ·exact inside_v h HV _
 unfold insR
 cases hi : insideH h with
 | none =>
  rw [hi] at eR
  simp (maxSteps := 1000000) only [VL,VM,↓VG,reduceIte,reduceCtorEq,zA,zB,zC,zD,zE,zF,zG,zH,zI,zJ]
  ((repeat refine Ws ?_);refine Wr ?_)
  simp (maxSteps := 1000000) only [VL,VM,↓VG,reduceIte,reduceCtorEq,zA,zB,zC,zD,zE,zF,zG,zH,zI,zJ]
  ((repeat refine Ws ?_);refine Wt (by first|rfl|simp only [EV,zF,reduceIte]) ?_)
  ((repeat refine Ws ?_);refine Wr ?_)
  simp (maxSteps := 1000000) only [VL,VM,↓VG,reduceIte,reduceCtorEq,zA,zB,zC,zD,zE,zF,zG,zH,zI,zJ]
  (repeat refine Ws ?_)
  refine W_ret ?_
  try simp only [thenQ, blockQ]
  refine own_ret2 rfl rfl rfl ?_ ?_
  ·rw [eR]
  ·rw [eR]
 | some l =>
  rw [hi] at eR
  have hln := insideH_len hi
  simp only [Int.toNat_natCast] at eR
  have hx : l[m]? = some (l.getD m ⟨0, 0⟩) := by rw [List.getD_eq_getElem?_getD, List.getElem?_eq_getElem (by omega)]; rfl
  obtain ⟨x, hxe⟩ : ∃ x, x = l.getD m ⟨0, 0⟩ := ⟨_, rfl⟩
  rw [← hxe] at hx eR
  have hx' := map_at (f := spP) hx
  obtain ⟨av, hav⟩ : ∃ av, av = admitV h n closed := ⟨_, rfl⟩
  rw [← hav] at eR
  unfold safeV at eR
  simp (maxSteps := 1000000) only [VL,VM,↓VG,reduceIte,reduceCtorEq,zA,zB,zC,zD,zE,zF,zG,zH,zI,zJ]
  ((repeat refine Ws ?_);refine Wr ?_)
  simp (maxSteps := 1000000) only [VL,VM,↓VG,reduceIte,reduceCtorEq,zA,zB,zC,zD,zE,zF,zG,zH,zI,zJ]
  ((repeat refine Ws ?_);refine Wf (by first|rfl|simp only [EV,zF,reduceIte]) ?_)
  ((repeat refine Ws ?_);refine W_skip ?_)
  simp (maxSteps := 1000000) only [VL,VM,↓VG,reduceIte,reduceCtorEq,zA,zB,zC,zD,zE,zF,zG,zH,zI,zJ]
  ((repeat refine Ws ?_);refine Wr ?_)
  simp (maxSteps := 1000000) only [VL,VM,↓VG,reduceIte,reduceCtorEq,zA,zB,zC,zD,zE,zF,zG,zH,zI,zJ]
  apply call_eq (f := 92) (fn := Try.f92) (by kernel_rfl) (by rfl)
  ·exact admit_v h HV n closed _ (by omega) hc
  rw [← hav]
  simp (maxSteps := 1000000) only [VL,VM,↓VG,reduceIte,reduceCtorEq,zA,zB,zC,zD,zE,zF,zG,zH,zI,zJ]
  ((repeat refine Ws ?_);refine W_block ?_)
  ((repeat refine Ws ?_);refine Wr ?_)
  by_cases b1 : x.hi ≤ av
  ·have q1 : (x.hi ≤ av) = True := eq_true b1
   rw [if_pos b1] at eR
   simp (maxSteps := 1000000) only [VL,VM,↓VG,reduceIte,reduceCtorEq,zA,zB,zC,zD,zE,zF,zG,zH,zI,zJ, hx', q1]
   ((repeat refine Ws ?_);refine Wt (by first|rfl|simp only [EV,zF,reduceIte]) ?_)
   ((repeat refine Ws ?_);refine Wr ?_)
   simp (maxSteps := 1000000) only [VL,VM,↓VG,reduceIte,reduceCtorEq,zA,zB,zC,zD,zE,zF,zG,zH,zI,zJ]
   (repeat refine Ws ?_)
   refine W_ret ?_
   try simp only [thenQ, blockQ]
   refine own_ret2 rfl rfl rfl ?_ ?_
   ·rw [eR]
   ·rw [eR]
  have q1 : (x.hi ≤ av) = False := eq_false b1
  rw [if_neg b1] at eR
  simp (maxSteps := 1000000) only [VL,VM,↓VG,reduceIte,reduceCtorEq,zA,zB,zC,zD,zE,zF,zG,zH,zI,zJ, hx', q1]
  ((repeat refine Ws ?_);refine Wf (by first|rfl|simp only [EV,zF,reduceIte]) ?_)
  ((repeat refine Ws ?_);refine Wr ?_)
  by_cases b2 : av < x.lo
  ·have q2 : (av < x.lo) = True := eq_true b2
   rw [if_pos b2] at eR
   simp (maxSteps := 1000000) only [VL,VM,↓VG,reduceIte,reduceCtorEq,zA,zB,zC,zD,zE,zF,zG,zH,zI,zJ, hx', q2]
   ((repeat refine Ws ?_);refine Wt (by first|rfl|simp only [EV,zF,reduceIte]) ?_)
   ((repeat refine Ws ?_);refine Wr ?_)
   simp (maxSteps := 1000000) only [VL,VM,↓VG,reduceIte,reduceCtorEq,zA,zB,zC,zD,zE,zF,zG,zH,zI,zJ]
   (repeat refine Ws ?_)
   refine W_ret ?_
   try simp only [thenQ, blockQ]
   refine own_ret2 rfl rfl rfl ?_ ?_
   ·rw [eR]
   ·rw [eR]
  have q2 : (av < x.lo) = False := eq_false b2
  rw [if_neg b2] at eR
  simp (maxSteps := 1000000) only [VL,VM,↓VG,reduceIte,reduceCtorEq,zA,zB,zC,zD,zE,zF,zG,zH,zI,zJ, hx', q2]
  ((repeat refine Ws ?_);refine Wf (by first|rfl|simp only [EV,zF,reduceIte]) ?_)
  ((repeat refine Ws ?_);refine W_skip ?_)
  simp (maxSteps := 1000000) only [VL,VM,↓VG,reduceIte,reduceCtorEq,zA,zB,zC,zD,zE,zF,zG,zH,zI,zJ]
  ((repeat refine Ws ?_);refine Wr ?_)
  simp (maxSteps := 1000000) only [VL,VM,↓VG,reduceIte,reduceCtorEq,zA,zB,zC,zD,zE,zF,zG,zH,zI,zJ]
  (repeat refine Ws ?_)
  refine W_ret ?_
  try simp only [thenQ, blockQ]
  refine own_ret2 rfl rfl rfl ?_ ?_
  ·rw [eR]
  ·rw [eR]
end Go.Proofs.Ytmagiabapakhcaa.Vm

/- The law of what truly went by the doors, on values. (Vm) -/
namespace Go.Proofs.Ytmagiabapakhcaa.Vm
open Go Go.Proofs
theorem DH_tail (M : Mem) (u : Int) (L : List VObj) : DH (M.H ++ [.dead]) M.H.length u L = M.H ++ (.obj [uv u] :: L) := by
 unfold DH
 rw [List.append_assoc]
 have := hset0 M.H ([.dead] ++ L) (.obj [uv u])
 rw [this]
 rfl
end Go.Proofs.Ytmagiabapakhcaa.Vm
