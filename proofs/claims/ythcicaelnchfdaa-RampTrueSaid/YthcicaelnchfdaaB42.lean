/- A part of the proofs about the chapter of the ramps; it states no condition of its own. -/
import Derived.Test.YthcicaelnchfdaaB15
import Derived.Test.YthcicaelnchfdaaB41
set_option linter.unusedVariables false
set_option linter.unusedSimpArgs false
open Int renaming reduceLE → zA, reduceLT → zB, reduceToNat → zC, reduceNeg → zD
open Nat renaming reduceLT → zE, reduceEqDiff → zF, reduceAdd → zG, reduceSub → zH, reduceMul → zI, reduceLeDiff → zJ
/- Carts of a ramp in their order, on values. (Vm) -/
namespace Go.Proofs.Ythcicaelnchfdaa.Vm
open Go Go.Proofs
abbrev cmpF (k : Nat) : VV := .fn (.func 98) [] [.ptr k 0]
theorem stable_v (p : List St) (l : List Nat) {k b : Nat} (M : Mem) (hk : M.H[k]? = some (.obj [stsV p])) (hb : M.H[b]? = some (.obj (l.map nv))) (hkb : k ≠ b) (hl : l.length < 20) (hn : l ≠ []) (hp : ∀ i ∈ l, i < p.length) (hasc : l.Pairwise (· < ·)) :
  VC Try.prog 101 [.bf b 0 l.length 1, vi (l.length : Nat), cmpF k] M (fun r M' => ∃ S : List Nat, S.Perm l ∧ S.Pairwise (ltP p) ∧ M' = ⟨M.H.set b (.obj (S.map nv)), M.lg⟩ ∧ r = .tup []) := by
 have q1 : ((20 : Int) ≤ (l.length : Int)) = False := eq_false (by omega)
 have q2 : ((20 : Int) < (l.length : Int)) = False := eq_false (by omega)
 refine VC_ownK T_ok (f := 101) (fn := Try.f101) (by kernel_rfl) rfl Try.ntmps101 (by rfl) (by rfl) ?_
 ((repeat refine Ws ?_);refine Wr ?_)
 simp (maxSteps := 1000000) only [VL,VM,↓VG,reduceIte,reduceCtorEq,zA,zB,zC,zD,zE,zF,zG,zH,zI,zJ]
 ((repeat refine Ws ?_);refine Wr ?_)
 simp (maxSteps := 1000000) only [VL,VM,↓VG,reduceIte,reduceCtorEq,zA,zB,zC,zD,zE,zF,zG,zH,zI,zJ]
 (repeat refine Ws ?_)
 refine W_block ?_
 refine W_loopS (σ := Unit) (fun _ => [(0, .bf b 0 l.length 1), (1, vi (l.length : Nat)), (2, cmpF k), (6, vi 20), (7, vi 0), (8, vi 20)]) (fun _ => M) (fun _ => 0) (fun _ => True) () trivial ⟨rfl, rfl, rfl, rfl, rfl, rfl, trivial⟩ rfl ?_
 rintro _ _
 ((repeat refine Ws ?_);refine Wr ?_)
 simp (maxSteps := 1000000) only [VL,VM,↓VG,reduceIte,reduceCtorEq,zA,zB,zC,zD,zE,zF,zG,zH,zI,zJ, q1]
 ((repeat refine Ws ?_);refine Wf (by first|rfl|simp only [EV,zF,reduceIte]) ?_)
 ((repeat refine Ws ?_);refine W_exit ?_)
 simp (maxSteps := 1000000) only [VL,VM,↓VG,reduceIte,reduceCtorEq,zA,zB,zC,zD,zE,zF,zG,zH,zI,zJ]
 ((repeat refine Ws ?_);refine Wr ?_)
 simp (maxSteps := 1000000) only [VL,VM,↓VG,reduceIte,reduceCtorEq,zA,zB,zC,zD,zE,zF,zG,zH,zI,zJ]
 refine fn_call (f := 103) (fn := Try.f103) (by kernel_rfl) (by rfl) ?_
 refine (insSort_v p l M hk hb hkb (by omega) hn hp hasc).mono ?_
 rintro _ _ ⟨S, hperm, hsort, rfl, rfl⟩
 simp (maxSteps := 1000000) only [VL,VM,↓VG,reduceIte,reduceCtorEq,zA,zB,zC,zD,zE,zF,zG,zH,zI,zJ]
 (repeat refine Ws ?_)
 refine W_block ?_
 refine W_loopS (σ := Unit) (fun _ => [(1, vi (l.length : Nat)), (6, vi 20)]) (fun _ => ⟨M.H.set b (.obj (S.map nv)), M.lg⟩) (fun _ => 0) (fun _ => True) () trivial ⟨rfl, rfl, trivial⟩ rfl ?_
 rintro _ _
 ((repeat refine Ws ?_);refine Wr ?_)
 simp (maxSteps := 1000000) only [VL,VM,↓VG,reduceIte,reduceCtorEq,zA,zB,zC,zD,zE,zF,zG,zH,zI,zJ, q2]
 ((repeat refine Ws ?_);refine Wf (by first|rfl|simp only [EV,zF,reduceIte]) ?_)
 ((repeat refine Ws ?_);refine W_exit ?_)
 simp (maxSteps := 1000000) only [VL,VM,↓VG,reduceIte,reduceCtorEq,zA,zB,zC,zD,zE,zF,zG,zH,zI,zJ]
 exact ⟨.inl rfl, ⟨[], by simp, by simp⟩, M.H.set b (.obj (S.map nv)), [], by simp [vkill], by simp, [], rfl, _, rfl, by simp [vtup, frz, frzL, refs, refsL], S, hperm, hsort, rfl, rfl⟩
theorem sortSt_v (p : List St) (l : List Nat) {k b : Nat} (M : Mem) (hk : M.H[k]? = some (.obj [stsV p])) (hb : M.H[b]? = some (.obj (l.map nv))) (hkb : k ≠ b) (hl : l.length < 20) (hn : l ≠ []) (hp : ∀ i ∈ l, i < p.length) (hasc : l.Pairwise (· < ·)) :
  VC Try.prog 97 [.bf b 0 l.length 1, cmpF k] M (fun r M' => ∃ S : List Nat, S.Perm l ∧ S.Pairwise (ltP p) ∧ M' = ⟨M.H.set b (.obj (S.map nv)), M.lg⟩ ∧ r = .tup []) := by
 refine VC_ownK T_ok (f := 97) (fn := Try.f97) (by kernel_rfl) rfl Try.ntmps97 (by rfl) (by rfl) ?_
 ((repeat refine Ws ?_);refine Wr ?_)
 simp (maxSteps := 1000000) only [VL,VM,↓VG,reduceIte,reduceCtorEq,zA,zB,zC,zD,zE,zF,zG,zH,zI,zJ]
 refine fn_call (f := 101) (fn := Try.f101) (by kernel_rfl) (by rfl) ?_
 refine (stable_v p l M hk hb hkb hl hn hp hasc).mono ?_
 rintro _ _ ⟨S, hperm, hsort, rfl, rfl⟩
 simp (maxSteps := 1000000) only [VL,VM,↓VG,reduceIte,reduceCtorEq,zA,zB,zC,zD,zE,zF,zG,zH,zI,zJ]
 exact ⟨.inl rfl, ⟨[], by simp, by simp⟩, M.H.set b (.obj (S.map nv)), [], by simp [vkill], by simp, [], rfl, _, rfl, by simp [vtup, frz, frzL, refs, refsL], S, hperm, hsort, rfl, rfl⟩
theorem ins_nil (k : Nat) (M : Mem) : VC Try.prog 103 [.p (.sl 0 []), vi 0, vi 0, cmpF k] M (fun r M' => M' = M ∧ r = .tup []) := by
 have z0 : -9223372036854775808 ≤ (0 : Int) + 1 ∧ (0 : Int) + 1 < 9223372036854775808 := by omega
 refine VC_own' T_ok (f := 103) (fn := Try.f103) (by kernel_rfl) rfl Try.ntmps103 (by rfl) (by rfl) ?_
 ((repeat refine Ws ?_);refine Wr ?_)
 simp (maxSteps := 1000000) only [VL,VM,↓VG,reduceIte,reduceCtorEq,zA,zB,zC,zD,zE,zF,zG,zH,zI,zJ, z0]
 (repeat refine Ws ?_)
 refine W_block ?_
 refine W_loopS (σ := Unit) (fun _ => [(2, vi 0), (8, vi (0 + 1))]) (fun _ => M) (fun _ => 0) (fun _ => True) () trivial ⟨rfl, rfl, trivial⟩ rfl ?_
 rintro _ _
 ((repeat refine Ws ?_);refine Wr ?_)
 simp (maxSteps := 1000000) only [VL,VM,↓VG,reduceIte,reduceCtorEq,zA,zB,zC,zD,zE,zF,zG,zH,zI,zJ, show ((0 : Int) + 1 < 0) = False from eq_false (by omega)]
 ((repeat refine Ws ?_);refine Wf (by first|rfl|simp only [EV,zF,reduceIte]) ?_)
 ((repeat refine Ws ?_);refine W_exit ?_)
 simp (maxSteps := 1000000) only [VL,VM,↓VG,reduceIte,reduceCtorEq,zA,zB,zC,zD,zE,zF,zG,zH,zI,zJ]
 exact ⟨.inl rfl, rfl, ⟨[], by simp, by simp⟩, M.H, [], by simp, rfl, [], rfl, _, rfl, by simp [vtup, frz, frzL, refs, refsL], rfl, rfl⟩
theorem stable_nil (k : Nat) (M : Mem) : VC Try.prog 101 [.p (.sl 0 []), vi 0, cmpF k] M (fun r M' => M' = M ∧ r = .tup []) := by
 refine VC_own' T_ok (f := 101) (fn := Try.f101) (by kernel_rfl) rfl Try.ntmps101 (by rfl) (by rfl) ?_
 ((repeat refine Ws ?_);refine Wr ?_)
 simp (maxSteps := 1000000) only [VL,VM,↓VG,reduceIte,reduceCtorEq,zA,zB,zC,zD,zE,zF,zG,zH,zI,zJ]
 ((repeat refine Ws ?_);refine Wr ?_)
 simp (maxSteps := 1000000) only [VL,VM,↓VG,reduceIte,reduceCtorEq,zA,zB,zC,zD,zE,zF,zG,zH,zI,zJ]
 (repeat refine Ws ?_)
 refine W_block ?_
 refine W_loopS (σ := Unit) (fun _ => [(0, .p (.sl 0 [])), (1, vi 0), (2, cmpF k), (6, vi 20), (7, vi 0), (8, vi 20)]) (fun _ => M) (fun _ => 0) (fun _ => True) () trivial ⟨rfl, rfl, rfl, rfl, rfl, rfl, trivial⟩ rfl ?_
 rintro _ _
 ((repeat refine Ws ?_);refine Wr ?_)
 simp (maxSteps := 1000000) only [VL,VM,↓VG,reduceIte,reduceCtorEq,zA,zB,zC,zD,zE,zF,zG,zH,zI,zJ]
 ((repeat refine Ws ?_);refine Wf (by first|rfl|simp only [EV,zF,reduceIte]) ?_)
 ((repeat refine Ws ?_);refine W_exit ?_)
 simp (maxSteps := 1000000) only [VL,VM,↓VG,reduceIte,reduceCtorEq,zA,zB,zC,zD,zE,zF,zG,zH,zI,zJ]
 ((repeat refine Ws ?_);refine Wr ?_)
 simp (maxSteps := 1000000) only [VL,VM,↓VG,reduceIte,reduceCtorEq,zA,zB,zC,zD,zE,zF,zG,zH,zI,zJ]
 apply call_eq (f := 103) (fn := Try.f103) (by kernel_rfl) (by rfl)
 ·exact ins_nil k _
 simp (maxSteps := 1000000) only [VL,VM,↓VG,reduceIte,reduceCtorEq,zA,zB,zC,zD,zE,zF,zG,zH,zI,zJ]
 (repeat refine Ws ?_)
 refine W_block ?_
 refine W_loopS (σ := Unit) (fun _ => [(1, vi 0), (6, vi 20)]) (fun _ => M) (fun _ => 0) (fun _ => True) () trivial ⟨rfl, rfl, trivial⟩ rfl ?_
 rintro _ _
 ((repeat refine Ws ?_);refine Wr ?_)
 simp (maxSteps := 1000000) only [VL,VM,↓VG,reduceIte,reduceCtorEq,zA,zB,zC,zD,zE,zF,zG,zH,zI,zJ]
 ((repeat refine Ws ?_);refine Wf (by first|rfl|simp only [EV,zF,reduceIte]) ?_)
 ((repeat refine Ws ?_);refine W_exit ?_)
 simp (maxSteps := 1000000) only [VL,VM,↓VG,reduceIte,reduceCtorEq,zA,zB,zC,zD,zE,zF,zG,zH,zI,zJ]
 exact ⟨.inl rfl, rfl, ⟨[], by simp, by simp⟩, M.H, [], by simp, rfl, [], rfl, _, rfl, by simp [vtup, frz, frzL, refs, refsL], rfl, rfl⟩
theorem sort_nil (k : Nat) (M : Mem) : VC Try.prog 97 [.p (.sl 0 []), cmpF k] M (fun r M' => M' = M ∧ r = .tup []) := by
 refine VC_own' T_ok (f := 97) (fn := Try.f97) (by kernel_rfl) rfl Try.ntmps97 (by rfl) (by rfl) ?_
 ((repeat refine Ws ?_);refine Wr ?_)
 simp (maxSteps := 1000000) only [VL,VM,↓VG,reduceIte,reduceCtorEq,zA,zB,zC,zD,zE,zF,zG,zH,zI,zJ]
 rw [show ((0 : Nat) : Int) = 0 from rfl]
 apply call_eq (f := 101) (fn := Try.f101) (by kernel_rfl) (by rfl)
 ·exact stable_nil k _
 simp (maxSteps := 1000000) only [VL,VM,↓VG,reduceIte,reduceCtorEq,zA,zB,zC,zD,zE,zF,zG,zH,zI,zJ]
 exact ⟨.inl rfl, rfl, ⟨[], by simp, by simp⟩, M.H, [], by simp, rfl, [], rfl, _, rfl, by simp [vtup, frz, frzL, refs, refsL], rfl, rfl⟩
end Go.Proofs.Ythcicaelnchfdaa.Vm

/- The order of the carts on a ramp, on values. (Vm) -/
-- TABLE TO
namespace Go.Proofs.Ythcicaelnchfdaa.Vm
open Go Go.Proofs
def tvO : List Nat → Nat → VV
 | [], _ => .sf 0 []
 | x :: l, id => .bf id 0 (x :: l).length 1
theorem tvO_ne {l : List Nat} (h : l ≠ []) (id : Nat) : tvO l id = .bf id 0 l.length 1 := by
 cases l with
 | nil => exact absurd rfl h
 | cons x l => rfl
structure OrSt where
 i : Nat
 J : List VObj
 q : Nat
set_option maxHeartbeats 4000000 in
theorem order_v (p : List St) (r : Int) (M : Mem) (hl : p.length < 20) : VC Try.prog 93 [stsV p, vi r] M (fun x M' => ∃ (L : List VObj) (S : List Nat) (q kk : Nat), M' = ⟨M.H ++ L, M.lg⟩ ∧ x = .fn (.func 102) [] [.ptr (M.H.length + q) 0] ∧ L[q]? = some (.obj [.p (.sl kk ((S.map fun i : Nat => (i : Int)).map intP))]) ∧ (kk = 1 ∨ S = []) ∧ Ord p r S) := by
 refine VC_esc TO_ok (f := 93) (fn := Try.f93) (by rw [xO_fn]; kernel_rfl) rfl Try.ntmps93 (by rfl) (by rw [TO, ownT2_keeps]; rfl) ?_
 ((repeat refine Ws ?_);refine W_region0 TO_ok ?_)
 simp (maxSteps := 1000000) only [xO_ty, xO_fn, xO_bin, xO_oi, xO_oc, xO_ok, VL,VM,↓VG,reduceIte,reduceCtorEq,zA,zB,zC,zD,zE,zF,zG,zH,zI,zJ]
 ((repeat refine Ws ?_);refine W_region0 TO_ok ?_)
 simp (maxSteps := 1000000) only [xO_ty, xO_fn, xO_bin, xO_oi, xO_oc, xO_ok, VL,VM,↓VG,reduceIte,reduceCtorEq,zA,zB,zC,zD,zE,zF,zG,zH,zI,zJ]
 ((repeat refine Ws ?_);refine W_region0 TO_ok ?_)
 simp (maxSteps := 1000000) only [xO_ty, xO_fn, xO_bin, xO_oi, xO_oc, xO_ok, VL,VM,↓VG,reduceIte,reduceCtorEq,zA,zB,zC,zD,zE,zF,zG,zH,zI,zJ]
 obtain ⟨n, hn⟩ : ∃ n, n = M.H.length := ⟨_, rfl⟩
 rw [← hn]
 ((repeat refine Ws ?_);refine W_block ?_; (repeat refine Ws ?_)); refine W_loopS (fun s : OrSt => [(1, vi r), (2, .ptr n 0), (5, tvO (idxP p r s.i) (n + (1 + s.q))), (8, stsV p), (9, vi (p.length : Nat)), (10, vi s.i)]) (fun s => ⟨M.H ++ .obj [stsV p] :: s.J, M.lg⟩) (fun s => p.length - s.i) (fun s => s.i ≤ p.length ∧ (idxP p r s.i ≠ [] → s.J[s.q]? = some (.obj ((idxP p r s.i).map nv)))) ⟨0, [], 0⟩ ⟨Nat.zero_le _, fun h => absurd rfl h⟩ ⟨rfl, rfl, rfl, rfl, rfl, rfl, trivial⟩ rfl ?_
 rintro ⟨i, J, q⟩ ⟨hi, hq⟩
 simp only at hi hq
 have k1 : -9223372036854775808 ≤ (i : Int) + 1 ∧ (i : Int) + 1 < 9223372036854775808 := by omega
 ((repeat refine Ws ?_);refine W_regionE TO_ok ?_; intro Kn hKn)
 rcases Nat.lt_or_ge i p.length with hlt | hge
 ·have k2 : ((i : Int) < (p.length : Int)) = True := eq_true (by omega)
  have hx := map_at (f := stP) (stAt_get hlt)
  have hsucc := idxP_succ p r i
  have hll := idxP_len p r i
  generalize idxP p r i = L at hq hsucc hll
  generalize stAt p i = s at hx hsucc
  obtain ⟨A, hA⟩ : ∃ A, A = M.H ++ VObj.obj [stsV p] :: J := ⟨_, rfl⟩
  have hAl : A.length = n + 1 + J.length := by rw [hA, hn]; simp; omega
  rw [← hA]
  ((simp (maxSteps := 1000000) only [xO_ty, xO_fn, xO_bin, xO_oi, xO_oc, xO_ok, VL,VM,↓VG,reduceIte,reduceCtorEq,zA,zB,zC,zD,zE,zF,zG,zH,zI,zJ, k2]); rw [hKn];clear hKn Kn;simp only [QV,reduceIte,reduceCtorEq,Nat.reduceEqDiff])
  ((repeat refine Ws ?_);refine Wt (by first|rfl|simp only [EV,zF,reduceIte]) ?_)
  (((repeat refine Ws ?_);refine W_skip ?_); simp only [QV,reduceIte,reduceCtorEq,Nat.reduceEqDiff])
  ((repeat refine Ws ?_);refine W_block ?_)
  ((repeat refine Ws ?_);refine W_regionE TO_ok ?_; intro Kn hKn)
  ((simp (maxSteps := 1000000) only [xO_ty, xO_fn, xO_bin, xO_oi, xO_oc, xO_ok, VL,VM,↓VG,reduceIte,reduceCtorEq,zA,zB,zC,zD,zE,zF,zG,zH,zI,zJ, hx]); rw [hKn];clear hKn Kn;simp only [QV,reduceIte,reduceCtorEq,Nat.reduceEqDiff])
  ((repeat refine Ws ?_);refine W_regionE TO_ok ?_; intro Kn hKn)
  by_cases hr : s.ramp = r
  ·rw [if_pos hr] at hsucc
   have q1 : ((L.length + 1) * 8 ≤ 140737488355328) = True := eq_true (by omega)
   ((simp (maxSteps := 1000000) only [xO_ty, xO_fn, xO_bin, xO_oi, xO_oc, xO_ok, VL,VM,↓VG,reduceIte,reduceCtorEq,zA,zB,zC,zD,zE,zF,zG,zH,zI,zJ, hr]); rw [hKn];clear hKn Kn;simp only [QV,reduceIte,reduceCtorEq,Nat.reduceEqDiff])
   ((repeat refine Ws ?_);refine Wt (by first|rfl|simp only [EV,zF,reduceIte]) ?_)
   ((repeat refine Ws ?_);refine W_regionE TO_ok ?_; intro Kn hKn)
   by_cases hL : L = []
   ·subst hL
    simp only [tvO]
    ((simp (maxSteps := 1000000) only [xO_ty, xO_fn, xO_bin, xO_oi, xO_oc, xO_ok, VL,VM,↓VG,reduceIte,reduceCtorEq,zA,zB,zC,zD,zE,zF,zG,zH,zI,zJ]); rw [hKn];clear hKn Kn;simp only [QV,reduceIte,reduceCtorEq,Nat.reduceEqDiff])
    ((repeat refine Ws ?_);refine W_regionE TO_ok ?_; intro Kn hKn)
    ((simp (maxSteps := 1000000) only [xO_ty, xO_fn, xO_bin, xO_oi, xO_oc, xO_ok, VL,VM,↓VG,reduceIte,reduceCtorEq,zA,zB,zC,zD,zE,zF,zG,zH,zI,zJ, k1]); rw [hKn];clear hKn Kn;simp only [QV,reduceIte,reduceCtorEq,Nat.reduceEqDiff])
    refine LoopK.mk ⟨i + 1, J ++ [.obj [vi s.ramp, vi s.from_], .obj [nv i]], J.length + 1⟩ (by simp only; omega) ⟨by simp only; omega, fun _ => ?_⟩ ⟨rfl, rfl, ?_, rfl, rfl, rfl, trivial⟩ ?_
    ·simp [hsucc]
    ·simp [get_cons, hsucc, hr, tvO, hAl]; omega
    ·rw [hA]; simp [hr]
   ·rw [tvO_ne hL]
    have hq2 := hq hL
    have hqJ := (List.getElem?_eq_some_iff.1 hq2).1
    have e9 : n + (1 + q) = M.H.length + (q + 1) := by omega
    have hAq : ∀ X, (A ++ X)[n + (1 + q)]? = some (.obj (L.map nv)) := fun X => by
     rw [List.getElem?_append_left (by omega), hA, e9, hget, List.getElem?_cons_succ, hq2]
    have hAs : ∀ X, (A ++ X).set (n + (1 + q)) .gone = A.set (n + (1 + q)) .gone ++ X := fun X => List.set_append_left _ _ (by omega)
    have hA2 : A.set (n + (1 + q)) .gone = M.H ++ .obj [stsV p] :: J.set q .gone := by rw [hA, e9, hset, List.set_cons_succ]
    have hL0 : (0 < L.length) = True := eq_true (List.length_pos_iff.2 hL)
    ((simp (maxSteps := 1000000) only [xO_ty, xO_fn, xO_bin, xO_oi, xO_oc, xO_ok, VL,VM,↓VG,reduceIte,reduceCtorEq,zA,zB,zC,zD,zE,zF,zG,zH,zI,zJ, vgrow, hAq, hAs, hL0, q1, List.length_map, List.flatten_cons, List.flatten_nil]); rw [hKn];clear hKn Kn;simp only [QV,reduceIte,reduceCtorEq,Nat.reduceEqDiff])
    ((repeat refine Ws ?_);refine W_regionE TO_ok ?_; intro Kn hKn)
    ((simp (maxSteps := 1000000) only [xO_ty, xO_fn, xO_bin, xO_oi, xO_oc, xO_ok, VL,VM,↓VG,reduceIte,reduceCtorEq,zA,zB,zC,zD,zE,zF,zG,zH,zI,zJ, k1]); rw [hKn];clear hKn Kn;simp only [QV,reduceIte,reduceCtorEq,Nat.reduceEqDiff])
    rw [hA2]
    refine LoopK.mk ⟨i + 1, J.set q .gone ++ [.obj [vi s.ramp, vi s.from_], .obj (L.map nv ++ [nv i])], J.length + 1⟩ (by simp only; omega) ⟨by simp only; omega, fun _ => ?_⟩ ⟨rfl, rfl, ?_, rfl, rfl, rfl, trivial⟩ ?_
    ·simp [hsucc]
    ·simp only [get_cons, Nat.reduceEqDiff, if_true, if_false, reduceIte, hsucc]
     rw [tvO_ne (by simp)]
     simp [hAl]; omega
    ·simp [hr]
  ·rw [if_neg hr] at hsucc
   ((simp (maxSteps := 1000000) only [xO_ty, xO_fn, xO_bin, xO_oi, xO_oc, xO_ok, VL,VM,↓VG,reduceIte,reduceCtorEq,zA,zB,zC,zD,zE,zF,zG,zH,zI,zJ, hr]); rw [hKn];clear hKn Kn;simp only [QV,reduceIte,reduceCtorEq,Nat.reduceEqDiff])
   ((repeat refine Ws ?_);refine Wf (by first|rfl|simp only [EV,zF,reduceIte]) ?_)
   (((repeat refine Ws ?_);refine W_skip ?_); simp only [QV,reduceIte,reduceCtorEq,Nat.reduceEqDiff])
   ((repeat refine Ws ?_);refine W_regionE TO_ok ?_; intro Kn hKn)
   ((simp (maxSteps := 1000000) only [xO_ty, xO_fn, xO_bin, xO_oi, xO_oc, xO_ok, VL,VM,↓VG,reduceIte,reduceCtorEq,zA,zB,zC,zD,zE,zF,zG,zH,zI,zJ, k1]); rw [hKn];clear hKn Kn;simp only [QV,reduceIte,reduceCtorEq,Nat.reduceEqDiff])
   refine LoopK.mk ⟨i + 1, J ++ [.obj [vi s.ramp, vi s.from_]], q⟩ (by simp only; omega) ⟨by simp only; omega, fun h => ?_⟩ ⟨rfl, rfl, ?_, rfl, rfl, rfl, trivial⟩ ?_
   ·simp only [hsucc] at h ⊢
    rw [List.getElem?_append_left (List.getElem?_eq_some_iff.1 (hq h)).1]
    exact hq h
   ·simp only [get_cons, Nat.reduceEqDiff, if_true, if_false, reduceIte, hsucc]
   ·rw [hA]; simp
 have k2 : ((i : Int) < (p.length : Int)) = False := eq_false (by omega)
 obtain rfl : i = p.length := by omega
 ((simp (maxSteps := 1000000) only [xO_ty, xO_fn, xO_bin, xO_oi, xO_oc, xO_ok, VL,VM,↓VG,reduceIte,reduceCtorEq,zA,zB,zC,zD,zE,zF,zG,zH,zI,zJ, k2]); rw [hKn];clear hKn Kn;simp only [QV,reduceIte,reduceCtorEq,Nat.reduceEqDiff])
 ((repeat refine Ws ?_);refine Wf (by first|rfl|simp only [EV,zF,reduceIte]) ?_)
 (((repeat refine Ws ?_);refine W_exit ?_); simp only [QV,reduceIte,reduceCtorEq,Nat.reduceEqDiff])
 have hlen := idxP_len p r p.length
 have hlt := fun j hj => idxP_lt (p := p) (r := r) (n := p.length) j hj
 have hasc := idxP_asc p r p.length
 obtain ⟨Lx, hLx⟩ : ∃ Lx, Lx = idxP p r p.length := ⟨_, rfl⟩
 rw [← hLx] at hlen hlt hasc hq ⊢
 by_cases hL : Lx = []
 ·subst hL
  simp only [tvO]
  ((repeat refine Ws ?_);refine W_region0 TO_ok ?_)
  simp (maxSteps := 1000000) only [xO_ty, xO_fn, xO_bin, xO_oi, xO_oc, xO_ok, VL,VM,↓VG,reduceIte,reduceCtorEq,zA,zB,zC,zD,zE,zF,zG,zH,zI,zJ]
  apply call_eq (f := 97) (fn := Try.f97) (by kernel_rfl) (by rfl)
  ·exact sort_nil _ _
  simp (maxSteps := 1000000) only [xO_ty, xO_fn, xO_bin, xO_oi, xO_oc, xO_ok, VL,VM,↓VG,reduceIte,reduceCtorEq,zA,zB,zC,zD,zE,zF,zG,zH,zI,zJ]
  ((repeat refine Ws ?_);refine W_region0 TO_ok ?_)
  simp (maxSteps := 1000000) only [xO_ty, xO_fn, xO_bin, xO_oi, xO_oc, xO_ok, VL,VM,↓VG,reduceIte,reduceCtorEq,zA,zB,zC,zD,zE,zF,zG,zH,zI,zJ]
  refine fn_call (f := 99) (fn := Try.f99) (by kernel_rfl) (by rfl) ?_
  refine (values_v 0 [] _).mono ?_
  rintro _ _ ⟨rfl, rfl⟩
  simp (maxSteps := 1000000) only [xO_ty, xO_fn, xO_bin, xO_oi, xO_oc, xO_ok, VL,VM,↓VG,reduceIte,reduceCtorEq,zA,zB,zC,zD,zE,zF,zG,zH,zI,zJ]
  (repeat refine Ws ?_)
  refine W_ret ⟨.inr rfl, rfl, [.fn (.func 102) [] [.ptr (M.H.length + (J.length + 1)) 0]], rfl, ⟨M.H.length + (J.length + 1), by simp [vtup, frz, frzL, refs, refsL], by rw [hn]; omega⟩, .obj [stsV p] :: (J ++ [.obj [.p (.sl 0 [])]]), [], 1 + J.length, 0, by simp, ?_, ?_, .inr rfl, ⟨by rw [← hLx], List.Pairwise.nil⟩⟩
  ·rw [hn]; simp [vtup]; omega
  ·rw [Nat.add_comm]; simp
 ·rw [tvO_ne hL]
  have hq2 := hq hL
  have hqJ := (List.getElem?_eq_some_iff.1 hq2).1
  have e9 : n + (1 + q) = M.H.length + (q + 1) := by omega
  ((repeat refine Ws ?_);refine W_region0 TO_ok ?_)
  simp (maxSteps := 1000000) only [xO_ty, xO_fn, xO_bin, xO_oi, xO_oc, xO_ok, VL,VM,↓VG,reduceIte,reduceCtorEq,zA,zB,zC,zD,zE,zF,zG,zH,zI,zJ]
  refine fn_call (f := 97) (fn := Try.f97) (by kernel_rfl) (by rfl) ?_
  refine (sortSt_v p Lx (k := n) (b := n + (1 + q)) ⟨M.H ++ .obj [stsV p] :: J, M.lg⟩ (by rw [hn]; exact hget0 _ _) (by show (M.H ++ .obj [stsV p] :: J)[n + (1 + q)]? = _; rw [e9, hget, List.getElem?_cons_succ, hq2]) (by omega) (by omega) hL hlt hasc).mono ?_
  rintro _ _ ⟨S, hperm, hsort, rfl, rfl⟩
  have eM : (M.H ++ .obj [stsV p] :: J).set (n + (1 + q)) (.obj (S.map nv)) = M.H ++ .obj [stsV p] :: J.set q (.obj (S.map nv)) := by rw [e9, hset, List.set_cons_succ]
  rw [eM]
  simp (maxSteps := 1000000) only [xO_ty, xO_fn, xO_bin, xO_oi, xO_oc, xO_ok, VL,VM,↓VG,reduceIte,reduceCtorEq,zA,zB,zC,zD,zE,zF,zG,zH,zI,zJ]
  (repeat refine Ws ?_)
  refine W_frzT (t := 5) (id := n + (1 + q)) (n := Lx.length) (k := 1) (xs := (S.map fun i : Nat => (i : Int)).map intP) ?_ (by rfl) (by simp) (by simp [hperm.length_eq]) ?_
  ·rw [e9, hget, List.getElem?_cons_succ, List.getElem?_set_self hqJ]
   rw [flat_ints]
   simp
  have eN : (M.H ++ .obj [stsV p] :: J.set q (.obj (S.map nv))).set (n + (1 + q)) .dead = M.H ++ .obj [stsV p] :: J.set q .dead := by rw [e9, hset, List.set_cons_succ, List.set_set]
  rw [eN]
  ((repeat refine Ws ?_);refine W_region0 TO_ok ?_)
  simp (maxSteps := 1000000) only [xO_ty, xO_fn, xO_bin, xO_oi, xO_oc, xO_ok, VL,VM,↓VG,reduceIte,reduceCtorEq,zA,zB,zC,zD,zE,zF,zG,zH,zI,zJ]
  refine fn_call (f := 99) (fn := Try.f99) (by kernel_rfl) (by rfl) ?_
  refine (values_v 1 ((S.map fun i : Nat => (i : Int)).map intP) _).mono ?_
  rintro _ _ ⟨rfl, rfl⟩
  simp (maxSteps := 1000000) only [xO_ty, xO_fn, xO_bin, xO_oi, xO_oc, xO_ok, VL,VM,↓VG,reduceIte,reduceCtorEq,zA,zB,zC,zD,zE,zF,zG,zH,zI,zJ]
  (repeat refine Ws ?_)
  refine W_ret ⟨.inr rfl, rfl, [.fn (.func 102) [] [.ptr (M.H.length + ((J.set q .dead).length + 1)) 0]], rfl, ⟨M.H.length + ((J.set q .dead).length + 1), by simp [vtup, frz, frzL, refs, refsL], by rw [hn]; omega⟩, .obj [stsV p] :: (J.set q .dead ++ [.obj [.p (.sl 1 ((S.map fun i : Nat => (i : Int)).map intP))]]), S, 1 + J.length, 1, by simp, ?_, ?_, .inl rfl, ⟨by rw [← hLx]; exact hperm, hsort⟩⟩
  ·rw [hn]; simp [vtup]; omega
  ·rw [Nat.add_comm]; simp
end Go.Proofs.Ythcicaelnchfdaa.Vm
