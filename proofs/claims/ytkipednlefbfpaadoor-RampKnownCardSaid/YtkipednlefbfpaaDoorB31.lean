/- A part of the proofs about the chapter of the ramps; it states no condition of its own. -/
import Derived.Test.YtkipednlefbfpaaDoorB19
import Derived.Test.YtkipednlefbfpaaDoorB20
import Derived.Test.YtkipednlefbfpaaDoorB30
set_option linter.unusedVariables false
set_option linter.unusedSimpArgs false
open Int renaming reduceLE → zA, reduceLT → zB, reduceToNat → zC, reduceNeg → zD
open Nat renaming reduceLT → zE, reduceEqDiff → zF, reduceAdd → zG, reduceSub → zH, reduceMul → zI, reduceLeDiff → zJ
/- The order of the carts on a ramp, on values. (Vm) -/
-- TABLE TO
namespace Go.Proofs.YtkipednlefbfpaaDoor.Vm
open Go Go.Proofs
def tvO : List Nat → Nat → VV
 | [], _ => .sf 0 []
 | x :: l, id => .bf id 0 (x :: l).length 1
theorem tvO_ne {l : List Nat} (h : l ≠ []) (id : Nat) : tvO l id = .bf id 0 l.length 1 := by
 cases l with
 | nil => exact absurd rfl h
 | cons x l => rfl
structure OrSt where
 i : Nat
 J : List VObj
 q : Nat
set_option maxHeartbeats 4000000 in
theorem order_v (p : List St) (r : Int) (M : Mem) (hl : p.length < 20) : VC Tryd.prog 49 [stsV p, vi r] M (fun x M' => ∃ (L : List VObj) (S : List Nat) (q kk : Nat), M' = ⟨M.H ++ L, M.lg⟩ ∧ x = .fn (.func 63) [] [.ptr (M.H.length + q) 0] ∧ L[q]? = some (.obj [.p (.sl kk ((S.map fun i : Nat => (i : Int)).map intP))]) ∧ (kk = 1 ∨ S = []) ∧ Ord p r S) := by
 refine VC_esc TO_ok (f := 49) (fn := Tryd.f49) (by rw [xO_fn]; kernel_rfl) rfl Tryd.ntmps49 (by rfl) (by rw [TO, ownT2_keeps]; rfl) ?_
 ((repeat refine Ws ?_);refine W_region0 TO_ok ?_)
 simp (maxSteps := 1000000) only [xO_ty, xO_fn, xO_bin, xO_oi, xO_oc, xO_ok, VL,VM,↓VG,reduceIte,reduceCtorEq,zA,zB,zC,zD,zE,zF,zG,zH,zI,zJ]
 ((repeat refine Ws ?_);refine W_region0 TO_ok ?_)
 simp (maxSteps := 1000000) only [xO_ty, xO_fn, xO_bin, xO_oi, xO_oc, xO_ok, VL,VM,↓VG,reduceIte,reduceCtorEq,zA,zB,zC,zD,zE,zF,zG,zH,zI,zJ]
 ((repeat refine Ws ?_);refine W_region0 TO_ok ?_)
 simp (maxSteps := 1000000) only [xO_ty, xO_fn, xO_bin, xO_oi, xO_oc, xO_ok, VL,VM,↓VG,reduceIte,reduceCtorEq,zA,zB,zC,zD,zE,zF,zG,zH,zI,zJ]
 obtain ⟨n, hn⟩ : ∃ n, n = M.H.length := ⟨_, rfl⟩
 rw [← hn]
 ((repeat refine Ws ?_);refine W_block ?_; (repeat refine Ws ?_)); refine W_loopS (fun s : OrSt => [(1, vi r), (2, .ptr n 0), (5, tvO (idxP p r s.i) (n + (1 + s.q))), (8, stsV p), (9, vi (p.length : Nat)), (10, vi s.i)]) (fun s => ⟨M.H ++ .obj [stsV p] :: s.J, M.lg⟩) (fun s => p.length - s.i) (fun s => s.i ≤ p.length ∧ (idxP p r s.i ≠ [] → s.J[s.q]? = some (.obj ((idxP p r s.i).map nv)))) ⟨0, [], 0⟩ ⟨Nat.zero_le _, fun h => absurd rfl h⟩ ⟨rfl, rfl, rfl, rfl, rfl, rfl, trivial⟩ rfl ?_
 rintro ⟨i, J, q⟩ ⟨hi, hq⟩
 simp only at hi hq
 have k1 : -9223372036854775808 ≤ (i : Int) + 1 ∧ (i : Int) + 1 < 9223372036854775808 := by omega
 ((repeat refine Ws ?_);refine W_regionE TO_ok ?_; intro Kn hKn)
 rcases Nat.lt_or_ge i p.length with hlt | hge
 ·have k2 : ((i : Int) < (p.length : Int)) = True := eq_true (by omega)
  have hx := map_at (f := stP) (stAt_get hlt)
  have hsucc := idxP_succ p r i
  have hll := idxP_len p r i
  generalize idxP p r i = L at hq hsucc hll
  generalize stAt p i = s at hx hsucc
  obtain ⟨A, hA⟩ : ∃ A, A = M.H ++ VObj.obj [stsV p] :: J := ⟨_, rfl⟩
  have hAl : A.length = n + 1 + J.length := by rw [hA, hn]; simp; omega
  rw [← hA]
  ((simp (maxSteps := 1000000) only [xO_ty, xO_fn, xO_bin, xO_oi, xO_oc, xO_ok, VL,VM,↓VG,reduceIte,reduceCtorEq,zA,zB,zC,zD,zE,zF,zG,zH,zI,zJ, k2]); rw [hKn];clear hKn Kn;simp only [QV,reduceIte,reduceCtorEq,Nat.reduceEqDiff])
  ((repeat refine Ws ?_);refine Wt (by first|rfl|simp only [EV,zF,reduceIte]) ?_)
  (((repeat refine Ws ?_);refine W_skip ?_); simp only [QV,reduceIte,reduceCtorEq,Nat.reduceEqDiff])
  ((repeat refine Ws ?_);refine W_block ?_)
  ((repeat refine Ws ?_);refine W_regionE TO_ok ?_; intro Kn hKn)
  ((simp (maxSteps := 1000000) only [xO_ty, xO_fn, xO_bin, xO_oi, xO_oc, xO_ok, VL,VM,↓VG,reduceIte,reduceCtorEq,zA,zB,zC,zD,zE,zF,zG,zH,zI,zJ, hx]); rw [hKn];clear hKn Kn;simp only [QV,reduceIte,reduceCtorEq,Nat.reduceEqDiff])
  ((repeat refine Ws ?_);refine W_regionE TO_ok ?_; intro Kn hKn)
  by_cases hr : s.ramp = r
  ·rw [if_pos hr] at hsucc
   have q1 : ((L.length + 1) * 8 ≤ 140737488355328) = True := eq_true (by omega)
   ((simp (maxSteps := 1000000) only [xO_ty, xO_fn, xO_bin, xO_oi, xO_oc, xO_ok, VL,VM,↓VG,reduceIte,reduceCtorEq,zA,zB,zC,zD,zE,zF,zG,zH,zI,zJ, hr]); rw [hKn];clear hKn Kn;simp only [QV,reduceIte,reduceCtorEq,Nat.reduceEqDiff])
   ((repeat refine Ws ?_);refine Wt (by first|rfl|simp only [EV,zF,reduceIte]) ?_)
   ((repeat refine Ws ?_);refine W_regionE TO_ok ?_; intro Kn hKn)
   by_cases hL : L = []
   ·subst hL
    simp only [tvO]
    ((simp (maxSteps := 1000000) only [xO_ty, xO_fn, xO_bin, xO_oi, xO_oc, xO_ok, VL,VM,↓VG,reduceIte,reduceCtorEq,zA,zB,zC,zD,zE,zF,zG,zH,zI,zJ]); rw [hKn];clear hKn Kn;simp only [QV,reduceIte,reduceCtorEq,Nat.reduceEqDiff])
    ((repeat refine Ws ?_);refine W_regionE TO_ok ?_; intro Kn hKn)
    ((simp (maxSteps := 1000000) only [xO_ty, xO_fn, xO_bin, xO_oi, xO_oc, xO_ok, VL,VM,↓VG,reduceIte,reduceCtorEq,zA,zB,zC,zD,zE,zF,zG,zH,zI,zJ, k1]); rw [hKn];clear hKn Kn;simp only [QV,reduceIte,reduceCtorEq,Nat.reduceEqDiff])
    refine LoopK.mk ⟨i + 1, J ++ [.obj [vi s.ramp, vi s.from_], .obj [nv i]], J.length + 1⟩ (by simp only; omega) ⟨by simp only; omega, fun _ => ?_⟩ ⟨rfl, rfl, ?_, rfl, rfl, rfl, trivial⟩ ?_
    ·simp [hsucc]
    ·simp [get_cons, hsucc, hr, tvO, hAl]; omega
    ·rw [hA]; simp [hr]
   ·rw [tvO_ne hL]
    have hq2 := hq hL
    have hqJ := (List.getElem?_eq_some_iff.1 hq2).1
    have e9 : n + (1 + q) = M.H.length + (q + 1) := by omega
    have hAq : ∀ X, (A ++ X)[n + (1 + q)]? = some (.obj (L.map nv)) := fun X => by
     rw [List.getElem?_append_left (by omega), hA, e9, hget, List.getElem?_cons_succ, hq2]
    have hAs : ∀ X, (A ++ X).set (n + (1 + q)) .gone = A.set (n + (1 + q)) .gone ++ X := fun X => List.set_append_left _ _ (by omega)
    have hA2 : A.set (n + (1 + q)) .gone = M.H ++ .obj [stsV p] :: J.set q .gone := by rw [hA, e9, hset, List.set_cons_succ]
    have hL0 : (0 < L.length) = True := eq_true (List.length_pos_iff.2 hL)
    ((simp (maxSteps := 1000000) only [xO_ty, xO_fn, xO_bin, xO_oi, xO_oc, xO_ok, VL,VM,↓VG,reduceIte,reduceCtorEq,zA,zB,zC,zD,zE,zF,zG,zH,zI,zJ, vgrow, hAq, hAs, hL0, q1, List.length_map, List.flatten_cons, List.flatten_nil]); rw [hKn];clear hKn Kn;simp only [QV,reduceIte,reduceCtorEq,Nat.reduceEqDiff])
    ((repeat refine Ws ?_);refine W_regionE TO_ok ?_; intro Kn hKn)
    ((simp (maxSteps := 1000000) only [xO_ty, xO_fn, xO_bin, xO_oi, xO_oc, xO_ok, VL,VM,↓VG,reduceIte,reduceCtorEq,zA,zB,zC,zD,zE,zF,zG,zH,zI,zJ, k1]); rw [hKn];clear hKn Kn;simp only [QV,reduceIte,reduceCtorEq,Nat.reduceEqDiff])
    rw [hA2]
    refine LoopK.mk ⟨i + 1, J.set q .gone ++ [.obj [vi s.ramp, vi s.from_], .obj (L.map nv ++ [nv i])], J.length + 1⟩ (by simp only; omega) ⟨by simp only; omega, fun _ => ?_⟩ ⟨rfl, rfl, ?_, rfl, rfl, rfl, trivial⟩ ?_
    ·simp [hsucc]
    ·simp only [get_cons, Nat.reduceEqDiff, if_true, if_false, reduceIte, hsucc]
     rw [tvO_ne (by simp)]
     simp [hAl]; omega
    ·simp [hr]
  ·rw [if_neg hr] at hsucc
   ((simp (maxSteps := 1000000) only [xO_ty, xO_fn, xO_bin, xO_oi, xO_oc, xO_ok, VL,VM,↓VG,reduceIte,reduceCtorEq,zA,zB,zC,zD,zE,zF,zG,zH,zI,zJ, hr]); rw [hKn];clear hKn Kn;simp only [QV,reduceIte,reduceCtorEq,Nat.reduceEqDiff])
   ((repeat refine Ws ?_);refine Wf (by first|rfl|simp only [EV,zF,reduceIte]) ?_)
   (((repeat refine Ws ?_);refine W_skip ?_); simp only [QV,reduceIte,reduceCtorEq,Nat.reduceEqDiff])
   ((repeat refine Ws ?_);refine W_regionE TO_ok ?_; intro Kn hKn)
   ((simp (maxSteps := 1000000) only [xO_ty, xO_fn, xO_bin, xO_oi, xO_oc, xO_ok, VL,VM,↓VG,reduceIte,reduceCtorEq,zA,zB,zC,zD,zE,zF,zG,zH,zI,zJ, k1]); rw [hKn];clear hKn Kn;simp only [QV,reduceIte,reduceCtorEq,Nat.reduceEqDiff])
   refine LoopK.mk ⟨i + 1, J ++ [.obj [vi s.ramp, vi s.from_]], q⟩ (by simp only; omega) ⟨by simp only; omega, fun h => ?_⟩ ⟨rfl, rfl, ?_, rfl, rfl, rfl, trivial⟩ ?_
   ·simp only [hsucc] at h ⊢
    rw [List.getElem?_append_left (List.getElem?_eq_some_iff.1 (hq h)).1]
    exact hq h
   ·simp only [get_cons, Nat.reduceEqDiff, if_true, if_false, reduceIte, hsucc]
   ·rw [hA]; simp
 have k2 : ((i : Int) < (p.length : Int)) = False := eq_false (by omega)
 obtain rfl : i = p.length := by omega
 ((simp (maxSteps := 1000000) only [xO_ty, xO_fn, xO_bin, xO_oi, xO_oc, xO_ok, VL,VM,↓VG,reduceIte,reduceCtorEq,zA,zB,zC,zD,zE,zF,zG,zH,zI,zJ, k2]); rw [hKn];clear hKn Kn;simp only [QV,reduceIte,reduceCtorEq,Nat.reduceEqDiff])
 ((repeat refine Ws ?_);refine Wf (by first|rfl|simp only [EV,zF,reduceIte]) ?_)
 (((repeat refine Ws ?_);refine W_exit ?_); simp only [QV,reduceIte,reduceCtorEq,Nat.reduceEqDiff])
 have hlen := idxP_len p r p.length
 have hlt := fun j hj => idxP_lt (p := p) (r := r) (n := p.length) j hj
 have hasc := idxP_asc p r p.length
 obtain ⟨Lx, hLx⟩ : ∃ Lx, Lx = idxP p r p.length := ⟨_, rfl⟩
 rw [← hLx] at hlen hlt hasc hq ⊢
 by_cases hL : Lx = []
 ·subst hL
  simp only [tvO]
  ((repeat refine Ws ?_);refine W_region0 TO_ok ?_)
  simp (maxSteps := 1000000) only [xO_ty, xO_fn, xO_bin, xO_oi, xO_oc, xO_ok, VL,VM,↓VG,reduceIte,reduceCtorEq,zA,zB,zC,zD,zE,zF,zG,zH,zI,zJ]
  apply call_eq (f := 57) (fn := Tryd.f57) (by kernel_rfl) (by rfl)
  ·exact sort_nil _ _
  simp (maxSteps := 1000000) only [xO_ty, xO_fn, xO_bin, xO_oi, xO_oc, xO_ok, VL,VM,↓VG,reduceIte,reduceCtorEq,zA,zB,zC,zD,zE,zF,zG,zH,zI,zJ]
  ((repeat refine Ws ?_);refine W_region0 TO_ok ?_)
  simp (maxSteps := 1000000) only [xO_ty, xO_fn, xO_bin, xO_oi, xO_oc, xO_ok, VL,VM,↓VG,reduceIte,reduceCtorEq,zA,zB,zC,zD,zE,zF,zG,zH,zI,zJ]
  refine fn_call (f := 59) (fn := Tryd.f59) (by kernel_rfl) (by rfl) ?_
  refine (values_v 0 [] _).mono ?_
  rintro _ _ ⟨rfl, rfl⟩
  simp (maxSteps := 1000000) only [xO_ty, xO_fn, xO_bin, xO_oi, xO_oc, xO_ok, VL,VM,↓VG,reduceIte,reduceCtorEq,zA,zB,zC,zD,zE,zF,zG,zH,zI,zJ]
  (repeat refine Ws ?_)
  refine W_ret ⟨.inr rfl, rfl, [.fn (.func 63) [] [.ptr (M.H.length + (J.length + 1)) 0]], rfl, ⟨M.H.length + (J.length + 1), by simp [vtup, frz, frzL, refs, refsL], by rw [hn]; omega⟩, .obj [stsV p] :: (J ++ [.obj [.p (.sl 0 [])]]), [], 1 + J.length, 0, by simp, ?_, ?_, .inr rfl, ⟨by rw [← hLx], List.Pairwise.nil⟩⟩
  ·rw [hn]; simp [vtup]; omega
  ·rw [Nat.add_comm]; simp
 ·rw [tvO_ne hL]
  have hq2 := hq hL
  have hqJ := (List.getElem?_eq_some_iff.1 hq2).1
  have e9 : n + (1 + q) = M.H.length + (q + 1) := by omega
  ((repeat refine Ws ?_);refine W_region0 TO_ok ?_)
  simp (maxSteps := 1000000) only [xO_ty, xO_fn, xO_bin, xO_oi, xO_oc, xO_ok, VL,VM,↓VG,reduceIte,reduceCtorEq,zA,zB,zC,zD,zE,zF,zG,zH,zI,zJ]
  refine fn_call (f := 57) (fn := Tryd.f57) (by kernel_rfl) (by rfl) ?_
  refine (sortSt_v p Lx (k := n) (b := n + (1 + q)) ⟨M.H ++ .obj [stsV p] :: J, M.lg⟩ (by rw [hn]; exact hget0 _ _) (by show (M.H ++ .obj [stsV p] :: J)[n + (1 + q)]? = _; rw [e9, hget, List.getElem?_cons_succ, hq2]) (by omega) (by omega) hL hlt hasc).mono ?_
  rintro _ _ ⟨S, hperm, hsort, rfl, rfl⟩
  have eM : (M.H ++ .obj [stsV p] :: J).set (n + (1 + q)) (.obj (S.map nv)) = M.H ++ .obj [stsV p] :: J.set q (.obj (S.map nv)) := by rw [e9, hset, List.set_cons_succ]
  rw [eM]
  simp (maxSteps := 1000000) only [xO_ty, xO_fn, xO_bin, xO_oi, xO_oc, xO_ok, VL,VM,↓VG,reduceIte,reduceCtorEq,zA,zB,zC,zD,zE,zF,zG,zH,zI,zJ]
  (repeat refine Ws ?_)
  refine W_frzT (t := 5) (id := n + (1 + q)) (n := Lx.length) (k := 1) (xs := (S.map fun i : Nat => (i : Int)).map intP) ?_ (by rfl) (by simp) (by simp [hperm.length_eq]) ?_
  ·rw [e9, hget, List.getElem?_cons_succ, List.getElem?_set_self hqJ]
   rw [flat_ints]
   simp
  have eN : (M.H ++ .obj [stsV p] :: J.set q (.obj (S.map nv))).set (n + (1 + q)) .dead = M.H ++ .obj [stsV p] :: J.set q .dead := by rw [e9, hset, List.set_cons_succ, List.set_set]
  rw [eN]
  ((repeat refine Ws ?_);refine W_region0 TO_ok ?_)
  simp (maxSteps := 1000000) only [xO_ty, xO_fn, xO_bin, xO_oi, xO_oc, xO_ok, VL,VM,↓VG,reduceIte,reduceCtorEq,zA,zB,zC,zD,zE,zF,zG,zH,zI,zJ]
  refine fn_call (f := 59) (fn := Tryd.f59) (by kernel_rfl) (by rfl) ?_
  refine (values_v 1 ((S.map fun i : Nat => (i : Int)).map intP) _).mono ?_
  rintro _ _ ⟨rfl, rfl⟩
  simp (maxSteps := 1000000) only [xO_ty, xO_fn, xO_bin, xO_oi, xO_oc, xO_ok, VL,VM,↓VG,reduceIte,reduceCtorEq,zA,zB,zC,zD,zE,zF,zG,zH,zI,zJ]
  (repeat refine Ws ?_)
  refine W_ret ⟨.inr rfl, rfl, [.fn (.func 63) [] [.ptr (M.H.length + ((J.set q .dead).length + 1)) 0]], rfl, ⟨M.H.length + ((J.set q .dead).length + 1), by simp [vtup, frz, frzL, refs, refsL], by rw [hn]; omega⟩, .obj [stsV p] :: (J.set q .dead ++ [.obj [.p (.sl 1 ((S.map fun i : Nat => (i : Int)).map intP))]]), S, 1 + J.length, 1, by simp, ?_, ?_, .inl rfl, ⟨by rw [← hLx]; exact hperm, hsort⟩⟩
  ·rw [hn]; simp [vtup]; omega
  ·rw [Nat.add_comm]; simp
end Go.Proofs.YtkipednlefbfpaaDoor.Vm

/- Whether a plan holds, by the program, on values. (Vm) -/
namespace Go.Proofs.YtkipednlefbfpaaDoor.Vm
open Go Go.Proofs
def LoopD {σ : Type} (E : σ → Env) (N : σ → Mem) (Dl : σ → List Nat) (m : σ → Nat) (good : σ → Prop) (s : σ) (e' : Env) (M' : Mem) (D' : List Nat) : Prop := ∃ s', m s' < m s ∧ good s' ∧ Sub (E s') e' ∧ M' = N s' ∧ D' = Dl s'
theorem LoopD.mk {σ : Type} {E : σ → Env} {N : σ → Mem} {Dl : σ → List Nat} {m : σ → Nat} {good : σ → Prop} {s : σ} {e' : Env} {M' : Mem} {D' : List Nat} (s' : σ) (h1 : m s' < m s) (h2 : good s') (h3 : Sub (E s') e') (h4 : M' = N s') (h5 : D' = Dl s') : LoopD E N Dl m good s e' M' D' := ⟨s', h1, h2, h3, h4, h5⟩
theorem W_loopD {σ : Type} {P : Program} {cx : Cx} {e : Env} {M : Mem} {D : List Nat} {Q : PQ} {c : Code} (E : σ → Env) (N : σ → Mem) (Dl : σ → List Nat) (m : σ → Nat) (good : σ → Prop) (s0 : σ) (h0 : good s0) (hE : Sub (E s0) e) (hM : M = N s0) (hD : D = Dl s0)
  (round : ∀ s, good s → WCode P cx c (E s) (N s) (Dl s) (thenQ (LoopD E N Dl m good s) Q)) : WCode P cx (.loop c) e M D Q := by
 refine W_loop (fun n e M D' => ∃ s, n = m s ∧ good s ∧ Sub (E s) e ∧ M = N s ∧ D' = Dl s) (n := m s0) ⟨s0, rfl, h0, hE, hM, hD⟩ ?_
 rintro n e M D' ⟨s, rfl, hg, hS, rfl, rfl⟩
 refine (WCode.weak (round s hg) hS.ok).mono ?_
 rintro ex e' M' D1 h
 cases ex <;> first | exact h | skip
 obtain ⟨s', h1, h2, h3, h4, h5⟩ := h
 exact ⟨m s', h1, s', rfl, h2, h3, h4, h5⟩
theorem vkill_all {n0 : Nat} : ∀ (D : List Nat) (H : List VObj), (∀ d ∈ D, n0 ≤ d ∧ H[d]? = some VObj.dfr) → D.Nodup → ∃ H2, vkill n0 D H = some H2 ∧ H2.length = H.length ∧ (∀ i : Nat, H[i]? ≠ some VObj.dfr → H2[i]? = H[i]?) ∧ H2.take n0 = H.take n0
 | [], H, _, _ => ⟨H, rfl, rfl, fun _ _ => rfl, rfl⟩
 | d :: D, H, h, hn => by
  obtain ⟨h1, h2⟩ := h d (by simp)
  obtain ⟨hn1, hn2⟩ := List.nodup_cons.1 hn
  have hlt := (List.getElem?_eq_some_iff.1 h2).1
  obtain ⟨H2, e1, e2, e3, e4⟩ := vkill_all D (H.set d .dead) (fun c hc => by
   obtain ⟨a, b⟩ := h c (by simp [hc])
   refine ⟨a, ?_⟩
   rw [List.getElem?_set_ne (fun e => hn1 (by rw [e]; exact hc))]
   exact b) hn2
  refine ⟨H2, ?_, by rw [e2, List.length_set], fun i hi => ?_, ?_⟩
  ·have hb : Nat.ble n0 d = true := by rw [Nat.ble_eq]; exact h1
   simp only [vkill, hb, cond_true, h2]
   exact e1
  ·have hid : d ≠ i := fun e => hi (by rw [← e]; exact h2)
   have : (H.set d .dead)[i]? = H[i]? := List.getElem?_set_ne hid
   rw [e3 i (by rw [this]; exact hi), this]
  ·rw [e4, List.take_set_of_le h1]
theorem hi_v (c : Ct) (M : Mem) : VC Tryd.prog 26 [ctV c] M (fun r M' => M' = M ∧ r = vi c.takes.hi) := by
 refine VC_own' T_ok (f := 26) (fn := Tryd.f26) (by kernel_rfl) rfl Tryd.ntmps26 (by rfl) (by rfl) ?_
 ((repeat refine Ws ?_);refine Wr ?_)
 simp (maxSteps := 1000000) only [VL,VM,↓VG,reduceIte,reduceCtorEq,zA,zB,zC,zD,zE,zF,zG,zH,zI,zJ]
 ((repeat refine Ws ?_);refine Wr ?_)
 simp (maxSteps := 1000000) only [VL,VM,↓VG,reduceIte,reduceCtorEq,zA,zB,zC,zD,zE,zF,zG,zH,zI,zJ]
 (repeat refine Ws ?_)
 refine W_ret ?_
 try simp only [thenQ, blockQ]
 refine own_ret1 rfl ?_ (by rfl)
 simp only [get_cons, frz, vtup, Nat.reduceEqDiff, if_true, if_false, reduceIte]
theorem lo_v (c : Ct) (M : Mem) : VC Tryd.prog 27 [ctV c] M (fun r M' => M' = M ∧ r = vi c.takes.lo) := by
 refine VC_own' T_ok (f := 27) (fn := Tryd.f27) (by kernel_rfl) rfl Tryd.ntmps27 (by rfl) (by rfl) ?_
 ((repeat refine Ws ?_);refine Wr ?_)
 simp (maxSteps := 1000000) only [VL,VM,↓VG,reduceIte,reduceCtorEq,zA,zB,zC,zD,zE,zF,zG,zH,zI,zJ]
 ((repeat refine Ws ?_);refine Wr ?_)
 simp (maxSteps := 1000000) only [VL,VM,↓VG,reduceIte,reduceCtorEq,zA,zB,zC,zD,zE,zF,zG,zH,zI,zJ]
 (repeat refine Ws ?_)
 refine W_ret ?_
 try simp only [thenQ, blockQ]
 refine own_ret1 rfl ?_ (by rfl)
 simp only [get_cons, frz, vtup, Nat.reduceEqDiff, if_true, if_false, reduceIte]
theorem mark_new {n : Nat} {J L : List VObj} {D : List Nat} {a b o : VObj} {J2 : List VObj} (hn : D.Nodup) (hd : ∀ d ∈ D, n + 4 ≤ d ∧ J[d - (n + 4)]? = some VObj.dfr) (hJ : J2 = J ++ a :: b :: (L ++ [.dfr, o])) : ((n + (J.length + (L.length + 6))) :: D).Nodup ∧ ∀ d ∈ (n + (J.length + (L.length + 6))) :: D, n + 4 ≤ d ∧ J2[d - (n + 4)]? = some VObj.dfr := by
 have hlt : ∀ d ∈ D, d - (n + 4) < J.length := fun d h => (List.getElem?_eq_some_iff.1 (hd d h).2).1
 refine ⟨List.nodup_cons.2 ⟨fun h => by have := hlt _ h; omega, hn⟩, fun d h => ?_⟩
 rcases List.mem_cons.1 h with rfl | h
 ·refine ⟨by omega, ?_⟩
  rw [hJ, show n + (J.length + (L.length + 6)) - (n + 4) = J.length + (L.length + 2) by omega, hget, List.getElem?_cons_succ, List.getElem?_cons_succ]
  exact hget0 _ _
 ·obtain ⟨h1, h2⟩ := hd d h
  refine ⟨h1, ?_⟩
  rw [hJ, List.getElem?_append_left (hlt d h)]
  exact h2
structure HoSt where
 r : Nat
 J : List VObj
 D : List Nat
set_option maxHeartbeats 8000000 in
theorem holds_v {y : Ya} (hy : YaV y) {p : List St} (hp : PlV y p) (tc : Ct → Int) (tk : List Int) (g : Nat) (hf : ∀ c M, VCall Tryd.prog (.fn (.func g) [] []) [ctV c] M (fun r M' => M' = M ∧ r = vi (tc c))) (htc : ∀ c ∈ y.carts, 1 ≤ tc c ∧ tc c ≤ 480) (htk : ∀ i, i < p.length → tc (ctAt y i) = tkAt tk i) (M : Mem) :
  VC Tryd.prog 25 [yardV y, stsV p, .fn (.func g) [] []] M (fun r M' => M' = M ∧ r = vb (heldB y p tk)) := by
 have hpl := hp.len
 have hm1 := hy.m1
 have hn3 := hy.n1
 have h0 : ∀ i, i < p.length → 0 ≤ (stAt p i).ramp ∧ (stAt p i).ramp < y.ramps.length := fun i hi => ⟨hp.r0 i hi, hp.r1 i hi⟩
 have hs0 := hy.s0
 have hs1 := hy.s1
 refine VC_ownK T_ok (f := 25) (fn := Tryd.f25) (by kernel_rfl) rfl Tryd.ntmps25 (by rfl) (by rfl) ?_
 ((repeat refine Ws ?_);refine Wr ?_)
 simp (maxSteps := 1000000) only [VL,VM,↓VG,reduceIte,reduceCtorEq,zA,zB,zC,zD,zE,zF,zG,zH,zI,zJ]
 ((repeat refine Ws ?_);refine Wr ?_)
 simp (maxSteps := 1000000) only [VL,VM,↓VG,reduceIte,reduceCtorEq,zA,zB,zC,zD,zE,zF,zG,zH,zI,zJ]
 obtain ⟨n, hn⟩ : ∃ n, n = M.H.length := ⟨_, rfl⟩
 rw [← hn]
 (repeat refine Ws ?_)
 refine W_block ?_
 refine W_loopD (fun s : HoSt => [(3, .ptr n 0), (4, .ptr (n + 1) 0), (5, .ptr (n + 2) 0), (6, .ptr (n + 3) 0), (15, rasV y.ramps), (16, vi (y.ramps.length : Nat)), (17, vi s.r)]) (fun s => ⟨M.H ++ .obj (yardC y) :: .obj [stsV p] :: .obj [.fn (.func g) [] []] :: .obj [vb false] :: s.J, M.lg⟩) (fun s => s.D) (fun s => y.ramps.length - s.r) (fun s => s.r ≤ y.ramps.length ∧ (∀ q : Nat, q < s.r → HR y p tk (q : Int)) ∧ s.D.Nodup ∧ ∀ d ∈ s.D, n + 4 ≤ d ∧ s.J[d - (n + 4)]? = some .dfr) ⟨0, [], []⟩ ⟨Nat.zero_le _, fun q hq => by simp at hq, List.nodup_nil, fun d hd => by cases hd⟩ ⟨rfl, rfl, rfl, rfl, rfl, rfl, rfl, trivial⟩ rfl rfl ?_
 rintro ⟨r, J, D⟩ ⟨hr, hHR, hDn, hDd⟩
 simp only at hr hHR hDn hDd
 have k1 : -9223372036854775808 ≤ (r : Int) + 1 ∧ (r : Int) + 1 < 9223372036854775808 := by omega
 -- the end, where all marks go
 have hkill : ∀ (D2 : List Nat) (b : Bool) (J2 : List VObj), D2.Nodup → (∀ d ∈ D2, n + 4 ≤ d ∧ J2[d - (n + 4)]? = some VObj.dfr) → ∀ e, get e 6 = .ptr (n + 3) 0 → ∀ ex, (ex = .normal ∨ ex = .ret) → b = heldB y p tk → ownK T Tryd.f25 M (fun r M' => M' = M ∧ r = vb (heldB y p tk)) ex e ⟨M.H ++ .obj (yardC y) :: .obj [stsV p] :: .obj [.fn (.func g) [] []] :: .obj [vb b] :: J2, M.lg⟩ D2 := by
  intro D2 b J2 h1 h2 e he ex hex hb
  obtain ⟨H, hH⟩ : ∃ H, H = M.H ++ .obj (yardC y) :: .obj [stsV p] :: .obj [.fn (.func g) [] []] :: .obj [vb b] :: J2 := ⟨_, rfl⟩
  obtain ⟨H2, v1, v2, v3, v4⟩ := vkill_all (n0 := M.H.length) D2 H (fun d hd => by
   obtain ⟨a, c⟩ := h2 d hd
   refine ⟨by omega, ?_⟩
   rw [hH, show d = M.H.length + (d - (n + 4) + 4) by omega, hget]
   simp only [List.getElem?_cons_succ]
   exact c) h1
  have v5 : H2[M.H.length + 3]? = some (.obj [vb b]) := by
   have : H[M.H.length + 3]? = some (.obj [vb b]) := by rw [hH, hget]; rfl
   rw [v3 _ (by rw [this]; simp), this]
  have v6 : H2 = M.H ++ H2.drop M.H.length := by
   rw [hH] at v4
   simp only [List.take_left'] at v4
   have := List.take_append_drop M.H.length H2
   rw [v4] at this
   exact this.symm
  rw [← hH]
  refine ⟨hex, ⟨[], by simp, by simp⟩, M.H, H2.drop M.H.length, by rw [v1, ← v6], rfl, [vb b], ?_, _, rfl, by simp [vtup, frz, refs], rfl, by rw [hb]; rfl⟩
  rw [← v6]
  simp [Tryd.f25, vresL, vload, t_bool, he, hn, v5, nat_ble, strip1]
 subst hn
 ((repeat refine Ws ?_);refine W_regionE T_ok ?_; intro Kn hKn)
 rcases Nat.lt_or_ge r y.ramps.length with hlt | hge
 rotate_left
 ·have k2 : ((r : Int) < (y.ramps.length : Int)) = False := eq_false (by omega)
  obtain rfl : r = y.ramps.length := by omega
  ((simp (maxSteps := 1000000) only [VL,VM,↓VG,reduceIte,reduceCtorEq,zA,zB,zC,zD,zE,zF,zG,zH,zI,zJ, k2]); rw [hKn];clear hKn Kn;simp only [QV,reduceIte,reduceCtorEq,Nat.reduceEqDiff])
  ((repeat refine Ws ?_);refine Wf (by first|rfl|simp only [EV,zF,reduceIte]) ?_)
  (((repeat refine Ws ?_);refine W_exit ?_); simp only [QV,reduceIte,reduceCtorEq,Nat.reduceEqDiff])
  have hh : heldB y p tk = true := (held_hr h0).2 hHR
  ((repeat refine Ws ?_);refine Wr ?_)
  simp (maxSteps := 1000000) only [VL,VM,↓VG,reduceIte,reduceCtorEq,zA,zB,zC,zD,zE,zF,zG,zH,zI,zJ, hget, hset]
  (repeat refine Ws ?_)
  refine W_ret ?_
  try simp only [thenQ, blockQ]
  exact hkill D true J hDn hDd _ (by rfl) _ (.inr rfl) hh.symm
 have k2 : ((r : Int) < (y.ramps.length : Int)) = True := eq_true (by omega)
 have hx : y.ramps[r]? = some (raAt y (r : Int)) := by
  have := raAt_get (y := y) (r := (r : Int)) (by omega) (by omega)
  simpa using this
 have hrv := hy.ra _ (raAt_mem (y := y) (r := (r : Int)) (by omega) (by omega))
 have hx' := map_at (f := raP) hx
 obtain ⟨x, hxe⟩ : ∃ x, x = raAt y (r : Int) := ⟨_, rfl⟩
 rw [← hxe] at hx hx' hrv
 ((simp (maxSteps := 1000000) only [VL,VM,↓VG,reduceIte,reduceCtorEq,zA,zB,zC,zD,zE,zF,zG,zH,zI,zJ, k2]); rw [hKn];clear hKn Kn;simp only [QV,reduceIte,reduceCtorEq,Nat.reduceEqDiff])
 ((repeat refine Ws ?_);refine Wt (by first|rfl|simp only [EV,zF,reduceIte]) ?_)
 (((repeat refine Ws ?_);refine W_skip ?_); simp only [QV,reduceIte,reduceCtorEq,Nat.reduceEqDiff])
 ((repeat refine Ws ?_);refine W_block ?_)
 ((repeat refine Ws ?_);refine Wr ?_)
 simp (maxSteps := 1000000) only [VL,VM,↓VG,reduceIte,reduceCtorEq,zA,zB,zC,zD,zE,zF,zG,zH,zI,zJ, hx']
 ((repeat refine Ws ?_);refine Wr ?_)
 simp (maxSteps := 1000000) only [VL,VM,↓VG,reduceIte,reduceCtorEq,zA,zB,zC,zD,zE,zF,zG,zH,zI,zJ]
 ((repeat refine Ws ?_);refine Wr ?_)
 simp (maxSteps := 1000000) only [VL,VM,↓VG,reduceIte,reduceCtorEq,zA,zB,zC,zD,zE,zF,zG,zH,zI,zJ]
 refine fn_call (f := 49) (fn := Tryd.f49) (by kernel_rfl) (by rfl) ?_
 refine (order_v p r _ (by omega)).mono ?_
 rintro _ _ ⟨L, S, q, kk, rfl, rfl, hLq, hkk, hOrd⟩
 simp (maxSteps := 1000000) only [VL,VM,↓VG,reduceIte,reduceCtorEq,zA,zB,zC,zD,zE,zF,zG,zH,zI,zJ]
 ((repeat refine Ws ?_);refine W_block ?_)
 obtain ⟨tf, htf⟩ : ∃ tf : Nat → Int, tf = fun i => tc (ctAt y i) := ⟨_, rfl⟩
 have hrun := run_hr (y := y) (tk := tk) (tf := tf) (fun i hi => by rw [htf]; exact htk i hi) hOrd
 rw [← hxe] at hrun
 obtain ⟨A, hA⟩ : ∃ A : Int → List VObj, A = fun f => M.H ++ VObj.obj (yardC y) :: .obj [stsV p] :: .obj [.fn (.func g) [] []] :: .obj [vb false] :: (J ++ .obj [vi x.open_, vi x.shut, vi x.bears] :: .obj [vi f] :: L) := ⟨_, rfl⟩
 have hAl : ∀ f, (A f).length = M.H.length + (J.length + (L.length + 6)) := fun f => by rw [hA]; simp; omega
 have a0 : ∀ f X, (A f ++ X)[M.H.length]? = some (.obj (yardC y)) := fun f X => by rw [hA]; simp only [List.append_assoc]; exact hget0 _ _
 have a1 : ∀ f X, (A f ++ X)[M.H.length + 1]? = some (.obj [stsV p]) := fun f X => by rw [hA]; simp only [List.append_assoc]; rw [hget]; rfl
 have a2 : ∀ f X, (A f ++ X)[M.H.length + 2]? = some (.obj [.fn (.func g) [] []]) := fun f X => by rw [hA]; simp only [List.append_assoc]; rw [hget]; rfl
 have a3 : ∀ f X, (A f ++ X)[M.H.length + 3]? = some (.obj [vb false]) := fun f X => by rw [hA]; simp only [List.append_assoc]; rw [hget]; rfl
 have a4 : ∀ f X, (A f ++ X)[M.H.length + (J.length + 4)]? = some (.obj [vi x.open_, vi x.shut, vi x.bears]) := fun f X => by
  rw [hA]
  simp only [List.append_assoc, List.cons_append]
  rw [hget]
  simp only [List.getElem?_cons_succ]
  exact hget0 _ _
 have a5 : ∀ f X, (A f ++ X)[M.H.length + (J.length + 5)]? = some (.obj [vi f]) := fun f X => by
  rw [hA]
  simp only [List.append_assoc, List.cons_append]
  rw [hget]
  simp only [List.getElem?_cons_succ]
  exact hget _ _ 1
 have a6 : ∀ f, (A f)[M.H.length + (J.length + (6 + q))]? = some (.obj [.p (.sl kk ((S.map fun i : Nat => (i : Int)).map intP))]) := fun f => by
  rw [hA]
  simp only
  rw [hget, show J.length + (6 + q) = J.length + (2 + q) + 1 + 1 + 1 + 1 by omega]
  simp only [List.getElem?_cons_succ]
  rw [hget, show 2 + q = q + 1 + 1 by omega, List.getElem?_cons_succ, List.getElem?_cons_succ]
  exact hLq
 have s5 : ∀ f v X, (A f ++ X).set (M.H.length + (J.length + 5)) (.obj [vi v]) = A v ++ X := fun f v X => by
  rw [hA]
  simp only [List.append_assoc, List.cons_append]
  rw [hset]
  simp only [List.set_cons_succ]
  rw [hset]
  rfl
 have s3 : ∀ f X, (A f ++ X).set (M.H.length + 3) (.obj [VV.p (.bool false)]) = A f ++ X := fun f X => by
  rw [hA]
  simp only [List.append_assoc, List.cons_append]
  rw [hset]
  rfl
 have hSl : S.length ≤ 1000000 := by
  have := hOrd.perm.length_eq
  have := idxP_len p (r : Int) p.length
  omega
 have hro0 := hrv.o0
 have hros := hrv.os
 have hrs1 := hrv.s1
 have hM0 : M.H ++ VObj.obj (yardC y) :: .obj [stsV p] :: .obj [.fn (.func g) [] []] :: .obj [vb false] :: (J ++ .obj [vi x.open_, vi x.shut, vi x.bears] :: .obj [vi x.open_] :: L) = A x.open_ := by rw [hA]
 rw [hM0]
 refine W_values rfl (b := M.H.length + (J.length + (6 + q))) (by rfl) (S.map fun i : Nat => (i : Int)) kk (by rcases hkk with h | h; exact .inl h; right; rw [h]; rfl) (by simpa using hSl)
  [(3, .ptr M.H.length 0), (4, .ptr (M.H.length + 1) 0), (5, .ptr (M.H.length + 2) 0), (6, .ptr (M.H.length + 3) 0), (8, .ptr (M.H.length + (J.length + 4)) 0), (9, .ptr (M.H.length + (J.length + 5)) 0)] A
  (fun i f => 0 ≤ f ∧ f ≤ 2000 ∧ runS y p tf r S x.open_ = runS y p tf r (S.drop i) f) (fun _ => runS y p tf r S x.open_ = false) x.open_ ⟨hro0, by omega, rfl⟩ (fun f => by rw [hAl]; exact (hAl _).symm) rfl a6 (by rfl) ⟨rfl, rfl, rfl, rfl, rfl, rfl, trivial⟩ (by kernel_rfl) ?_ ?_ ?_
 ·intro o o' i z f junk hz hg
  obtain ⟨hf0, hf1, hfr⟩ := hg
  rw [List.getElem?_map] at hz
  obtain ⟨j, hj, rfl⟩ := Option.map_eq_some_iff.1 hz
  have hdrop : S.drop i = j :: S.drop (i + 1) := by
   obtain ⟨hi, e⟩ := List.getElem?_eq_some_iff.1 hj
   rw [List.drop_eq_getElem_cons hi, e]
  rw [hdrop, runS] at hfr
  obtain ⟨hjp, hjr⟩ := hOrd.mem.1 (List.mem_of_getElem? hj)
  have hjc : j < y.carts.length := by omega
  have hcx := map_at (f := ctP) (ctAt_get hjc)
  have hsx := map_at (f := stP) (stAt_get hjp)
  have hcm := hy.ct _ (ctAt_mem hjc)
  have htj := htc _ (ctAt_mem hjc)
  have hs0' := hp.f0 j hjp
  have hs1' := hp.f1 j hjp
  have etf : tf j = tc (ctAt y j) := by rw [htf]
  rw [etf, ← hxe] at hfr
  generalize ctAt y j = c at hcx hcm htj hfr
  generalize stAt p j = st at hsx hs0' hs1' hfr
  ((repeat refine Ws ?_);refine Wr ?_)
  simp (maxSteps := 1000000) only [VL,VM,↓VG,reduceIte,reduceCtorEq,zA,zB,zC,zD,zE,zF,zG,zH,zI,zJ]
  refine ⟨junk, rfl, ?_⟩
  ((repeat refine Ws ?_);refine W_block ?_)
  obtain ⟨Z, hZ⟩ : ∃ Z : Int → List VObj, Z = fun f => A f ++ .dfr :: o' :: junk := ⟨_, rfl⟩
  have z0 : ∀ f, (Z f)[M.H.length]? = some (.obj (yardC y)) := fun f => by rw [hZ]; exact a0 f _
  have z0X : ∀ f X, (Z f ++ X)[M.H.length]? = some (.obj (yardC y)) := fun f X => by rw [hZ]; simp only [List.append_assoc]; exact a0 f _
  have z1 : ∀ f, (Z f)[M.H.length + 1]? = some (.obj [stsV p]) := fun f => by rw [hZ]; exact a1 f _
  have z1X : ∀ f X, (Z f ++ X)[M.H.length + 1]? = some (.obj [stsV p]) := fun f X => by rw [hZ]; simp only [List.append_assoc]; exact a1 f _
  have z2X : ∀ f X, (Z f ++ X)[M.H.length + 2]? = some (.obj [.fn (.func g) [] []]) := fun f X => by rw [hZ]; simp only [List.append_assoc]; exact a2 f _
  have z3X : ∀ f X, (Z f ++ X)[M.H.length + 3]? = some (.obj [vb false]) := fun f X => by rw [hZ]; simp only [List.append_assoc]; exact a3 f _
  have z4X : ∀ f X, (Z f ++ X)[M.H.length + (J.length + 4)]? = some (.obj [vi x.open_, vi x.shut, vi x.bears]) := fun f X => by rw [hZ]; simp only [List.append_assoc]; exact a4 f _
  have z5X : ∀ f X, (Z f ++ X)[M.H.length + (J.length + 5)]? = some (.obj [vi f]) := fun f X => by rw [hZ]; simp only [List.append_assoc]; exact a5 f _
  have zs : ∀ f v X, (Z f ++ X).set (M.H.length + (J.length + 5)) (.obj [vi v]) = Z v ++ X := fun f v X => by rw [hZ]; simp only [List.append_assoc]; exact s5 f v _
  have zr : ∀ f X, (Z f ++ X).set (M.H.length + 3) (.obj [VV.p (.bool false)]) = Z f ++ X := fun f X => by rw [hZ]; simp only [List.append_assoc]; exact s3 f _
  have hZe : ∀ f, A f ++ .dfr :: o' :: junk = Z f := fun f => by rw [hZ]
  have hZf : ∀ f X, Z f ++ X = A f ++ .dfr :: o' :: (junk ++ X) := fun f X => by rw [hZ]; simp
  rw [hZe]
  have u1 := hcm.f0
  have u2 := hcm.fu
  have u3 := hcm.u1
  ·skip
   (repeat refine Ws ?_)
   refine W_drawP T_ok [.obj [vi 0, vi 0, vi 0, vi 0, vi 0, .sf 0 []]] (by kernel_rfl) (by kernel_rfl) ?_
   generalize hi : mkPlan _ = infs
   cbv at hi
   subst hi
   simp (maxSteps := 1000000) only [VL,VM,↓VG,reduceIte,reduceCtorEq,zA,zB,zC,zD,zE,zF,zG,zH,zI,zJ, z0, z0X, z1, z1X, hcx, hsx]
   have k5 : -9223372036854775808 ≤ st.from_ + tc c ∧ st.from_ + tc c < 9223372036854775808 := by omega
   have k6 : -9223372036854775808 ≤ st.from_ + tc c + y.sweep ∧ st.from_ + tc c + y.sweep < 9223372036854775808 := by omega
   ((repeat refine Ws ?_);refine Wr ?_)
   simp (maxSteps := 1000000) only [VL,VM,↓VG,reduceIte,reduceCtorEq,zA,zB,zC,zD,zE,zF,zG,zH,zI,zJ, z2X]
   refine (hf c _).mono ?_
   rintro _ _ ⟨rfl, rfl⟩
   simp (maxSteps := 1000000) only [VL,VM,↓VG,reduceIte,reduceCtorEq,zA,zB,zC,zD,zE,zF,zG,zH,zI,zJ, k5]
   by_cases q1 : st.from_ < max f c.from_
   ·((repeat refine Ws ?_);refine Wr ?_)
    simp (maxSteps := 1000000) only [VL,VM,↓VG,reduceIte,reduceCtorEq,zA,zB,zC,zD,zE,zF,zG,zH,zI,zJ, z5X, q1]
    ((repeat refine Ws ?_);refine Wt (by first|rfl|simp only [EV,zF,reduceIte]) ?_)
    ((repeat refine Ws ?_);refine Wr ?_)
    simp (maxSteps := 1000000) only [VL,VM,↓VG,reduceIte,reduceCtorEq,zA,zB,zC,zD,zE,zF,zG,zH,zI,zJ, z3X, zr]
    (repeat refine Ws ?_)
    refine W_ret ?_
    try simp only [thenQ, blockQ]
    refine .inr ⟨trivial, f, junk ++ [.obj (ctC c)], by rw [hZf], ?_⟩
    rw [hfr, if_pos (.inl q1)]
   ·by_cases q2 : min c.until_ x.shut < st.from_ + tc c
    ·((repeat refine Ws ?_);refine Wr ?_)
     simp (maxSteps := 1000000) only [VL,VM,↓VG,reduceIte,reduceCtorEq,zA,zB,zC,zD,zE,zF,zG,zH,zI,zJ, z5X, z4X, q1, q2]
     ((repeat refine Ws ?_);refine Wt (by first|rfl|simp only [EV,zF,reduceIte]) ?_)
     ((repeat refine Ws ?_);refine Wr ?_)
     simp (maxSteps := 1000000) only [VL,VM,↓VG,reduceIte,reduceCtorEq,zA,zB,zC,zD,zE,zF,zG,zH,zI,zJ, z3X, zr]
     (repeat refine Ws ?_)
     refine W_ret ?_
     try simp only [thenQ, blockQ]
     refine .inr ⟨trivial, f, junk ++ [.obj (ctC c)], by rw [hZf], ?_⟩
     rw [hfr, if_pos (.inr q2)]
    ·((repeat refine Ws ?_);refine Wr ?_)
     simp (maxSteps := 1000000) only [VL,VM,↓VG,reduceIte,reduceCtorEq,zA,zB,zC,zD,zE,zF,zG,zH,zI,zJ, z5X, z4X, q1, q2]
     ((repeat refine Ws ?_);refine Wf (by first|rfl|simp only [EV,zF,reduceIte]) ?_)
     ((repeat refine Ws ?_);refine W_skip ?_)
     simp (maxSteps := 1000000) only [VL,VM,↓VG,reduceIte,reduceCtorEq,zA,zB,zC,zD,zE,zF,zG,zH,zI,zJ]
     ((repeat refine Ws ?_);refine Wr ?_)
     simp (maxSteps := 1000000) only [VL,VM,↓VG,reduceIte,reduceCtorEq,zA,zB,zC,zD,zE,zF,zG,zH,zI,zJ, z0X, z5X, k6, zs]
     refine .inl ⟨max f (st.from_ + tc c + y.sweep), junk ++ [.obj (ctC c)], by rw [hZf], by omega, by omega, ?_⟩
     rw [hfr, if_neg (by omega)]
 ·intro o f hg
  obtain ⟨hf0, hf1, hfr⟩ := hg
  rw [List.length_map, List.drop_length] at hfr
  have hok := hrun.1 hfr
  obtain ⟨J2, hJ2⟩ : ∃ J2, J2 = J ++ VObj.obj [vi x.open_, vi x.shut, vi x.bears] :: .obj [vi f] :: (L ++ [.dfr, o]) := ⟨_, rfl⟩
  have hAJ : A f ++ [.dfr, o] = M.H ++ VObj.obj (yardC y) :: .obj [stsV p] :: .obj [.fn (.func g) [] []] :: .obj [vb false] :: J2 := by rw [hA, hJ2]; simp
  have hdf := mark_new hDn hDd hJ2
  try simp only [thenQ, blockQ]
  ((repeat refine Ws ?_);refine Wr ?_)
  simp (maxSteps := 1000000) only [VL,VM,↓VG,reduceIte,reduceCtorEq,zA,zB,zC,zD,zE,zF,zG,zH,zI,zJ, k1]
  refine LoopD.mk ⟨r + 1, J2, _⟩ (by simp only; omega) ⟨by simp only; omega, fun q hq => ?_, ?_, ?_⟩ ⟨rfl, rfl, rfl, rfl, rfl, rfl, rfl, trivial⟩ (by rw [hAJ]) rfl
  ·rcases Nat.lt_or_ge q r with h | h
   ·exact hHR q h
   ·simp only at hq
    rw [show q = r by omega]; exact hok
  ·simp only
   rw [hAl]
   exact hdf.1
  ·simp only
   rw [hAl]
   exact hdf.2
 ·intro o f hst
  have hno : heldB y p tk = false := by
   cases hh : heldB y p tk with
   | false => rfl
   | true =>
    have := hrun.2 ((held_hr h0).1 hh r (by omega))
    rw [hst] at this; cases this
  obtain ⟨J2, hJ2⟩ : ∃ J2, J2 = J ++ VObj.obj [vi x.open_, vi x.shut, vi x.bears] :: .obj [vi f] :: (L ++ [.dfr, o]) := ⟨_, rfl⟩
  have hAJ : A f ++ [.dfr, o] = M.H ++ VObj.obj (yardC y) :: .obj [stsV p] :: .obj [.fn (.func g) [] []] :: .obj [vb false] :: J2 := by rw [hA, hJ2]; simp
  have hdf := mark_new hDn hDd hJ2
  refine W_ret ?_
  try simp only [thenQ, blockQ]
  rw [hAJ]
  simp only [hAl]
  exact hkill _ false J2 hdf.1 hdf.2 _ (by rfl) _ (.inr rfl) hno.symm
end Go.Proofs.YtkipednlefbfpaaDoor.Vm

/- What Holds says, by the program, on values. (Vm) -/
namespace Go.Proofs.YtkipednlefbfpaaDoor.Vm
open Go Go.Proofs
theorem fn_val {f : Nat} {fn : Func} {args : List VV} {M : Mem} {v : VV} (hf : T.fn f = some fn) (hk : T.keeps f = false) (h : VC Tryd.prog f (args.map strip1) M (fun r M' => M' = M ∧ r = v)) : VCall Tryd.prog (.fn (.func f) [] []) args M (fun r M' => M' = M ∧ r = v) := fn_call hf hk h
theorem heldL_v {y : Ya} (hy : YaV y) {p : List St} (hp : PlV y p) (M : Mem) : VC Tryd.prog 25 [yardV y, stsV p, .fn (.func 26) [] []] M (fun r M' => M' = M ∧ r = vb (heldB y p (longest y))) := by
 have hl := hp.len
 refine holds_v hy hp (fun c => c.takes.hi) (longest y) _ (fun c M => fn_val (fn := Tryd.f26) (by kernel_rfl) (by rfl) (hi_v c M)) (fun c hc => ?_) (fun i hi => (longest_at (by omega)).symm) M
 have k := hy.ct c hc
 have := k.l0
 have := k.lh
 have := k.h1
 omega
theorem shortest_at {y : Ya} {i : Nat} (h : i < y.carts.length) : tkAt (shortest y) i = (ctAt y i).takes.lo := by simp [tkAt, shortest, ctAt, h]
theorem heldS_v {y : Ya} (hy : YaV y) {p : List St} (hp : PlV y p) (M : Mem) : VC Tryd.prog 25 [yardV y, stsV p, .fn (.func 27) [] []] M (fun r M' => M' = M ∧ r = vb (heldB y p (shortest y))) := by
 have hl := hp.len
 refine holds_v hy hp (fun c => c.takes.lo) (shortest y) _ (fun c M => fn_val (fn := Tryd.f27) (by kernel_rfl) (by rfl) (lo_v c M)) (fun c hc => ?_) (fun i hi => (shortest_at (by omega)).symm) M
 have k := hy.ct c hc
 have := k.l0
 have := k.lh
 have := k.h1
 omega
theorem pholds_v (y : Ya) (p : List St) (M : Mem) (hn : y.ramps.length ≤ 1000000) (hm : y.carts.length ≤ 1000000) (hl : ∀ c ∈ y.carts, c.ramps.length ≤ 1000000) (hp : p.length ≤ 1000000) : VC Tryd.prog 10 [yardV y, stsV p] M (fun r M' => M' = M ∧ r = .tup [vi (holdsV y p).1, vi (holdsV y p).2]) := by
 refine VC_own' T_ok (f := 10) (fn := Tryd.f10) (by kernel_rfl) rfl Tryd.ntmps10 (by rfl) (by rfl) ?_
 ((repeat refine Ws ?_);refine W_regionE T_ok ?_; intro Kn hKn)
 ((simp (maxSteps := 1000000) only [VL,VM,↓VG,reduceIte,reduceCtorEq,zA,zB,zC,zD,zE,zF,zG,zH,zI,zJ]); rw [hKn];clear hKn Kn;simp only [QV,reduceIte,reduceCtorEq,Nat.reduceEqDiff])
 ((repeat refine Ws ?_);refine W_regionE T_ok ?_; intro Kn hKn)
 simp (maxSteps := 1000000) only [VL,VM,↓VG,reduceIte,reduceCtorEq,zA,zB,zC,zD,zE,zF,zG,zH,zI,zJ]
 apply call_eq (f := 9) (fn := Tryd.f9) (by kernel_rfl) (by rfl)
 ·exact checkPlan_v y p _ hn hm hl hp
 ((simp (maxSteps := 1000000) only [VL,VM,↓VG,reduceIte,reduceCtorEq,zA,zB,zC,zD,zE,zF,zG,zH,zI,zJ]); rw [hKn];clear hKn Kn;simp only [QV,reduceIte,reduceCtorEq,Nat.reduceEqDiff])
 ((repeat refine Ws ?_);refine W_block ?_)
 by_cases h1 : plErr y p = 0
 ·obtain ⟨hy, hpl⟩ := plErr_ok.1 h1
  rw [h1]
  ((repeat refine Ws ?_);refine W_regionE T_ok ?_; intro Kn hKn)
  ((simp (maxSteps := 1000000) only [VL,VM,↓VG,reduceIte,reduceCtorEq,zA,zB,zC,zD,zE,zF,zG,zH,zI,zJ]); rw [hKn];clear hKn Kn;simp only [QV,reduceIte,reduceCtorEq,Nat.reduceEqDiff])
  ((repeat refine Ws ?_);refine Wf (by first|rfl|simp only [EV,zF,reduceIte]) ?_)
  ((repeat refine Ws ?_);refine W_regionE T_ok ?_; intro Kn hKn)
  simp (maxSteps := 1000000) only [VL,VM,↓VG,reduceIte,reduceCtorEq,zA,zB,zC,zD,zE,zF,zG,zH,zI,zJ]
  apply call_eq (f := 25) (fn := Tryd.f25) (by kernel_rfl) (by rfl)
  ·exact heldL_v hy hpl _
  ((simp (maxSteps := 1000000) only [VL,VM,↓VG,reduceIte,reduceCtorEq,zA,zB,zC,zD,zE,zF,zG,zH,zI,zJ]); rw [hKn];clear hKn Kn;simp only [QV,reduceIte,reduceCtorEq,Nat.reduceEqDiff])
  cases h2 : heldB y p (longest y)
  ·((repeat refine Ws ?_);refine Wf (by first|rfl|simp only [EV,zF,reduceIte]) ?_)
   ((repeat refine Ws ?_);refine W_regionE T_ok ?_; intro Kn hKn)
   simp (maxSteps := 1000000) only [VL,VM,↓VG,reduceIte,reduceCtorEq,zA,zB,zC,zD,zE,zF,zG,zH,zI,zJ]
   apply call_eq (f := 25) (fn := Tryd.f25) (by kernel_rfl) (by rfl)
   ·exact heldS_v hy hpl _
   ((simp (maxSteps := 1000000) only [VL,VM,↓VG,reduceIte,reduceCtorEq,zA,zB,zC,zD,zE,zF,zG,zH,zI,zJ]); rw [hKn];clear hKn Kn;simp only [QV,reduceIte,reduceCtorEq,Nat.reduceEqDiff])
   cases h3 : heldB y p (shortest y)
   ·((repeat refine Ws ?_);refine Wf (by first|rfl|simp only [EV,zF,reduceIte]) ?_)
    (((repeat refine Ws ?_);refine W_skip ?_); simp only [QV,reduceIte,reduceCtorEq,Nat.reduceEqDiff])
    ((repeat refine Ws ?_);refine W_regionE T_ok ?_; intro Kn hKn)
    ((simp (maxSteps := 1000000) only [VL,VM,↓VG,reduceIte,reduceCtorEq,zA,zB,zC,zD,zE,zF,zG,zH,zI,zJ]); rw [hKn];clear hKn Kn;simp only [QV,reduceIte,reduceCtorEq,Nat.reduceEqDiff])
    (repeat refine Ws ?_)
    refine W_ret ?_
    try simp only [thenQ, blockQ]
    refine own_ret2 rfl ?_ ?_ (by rfl) (by rfl)
    simp only [get_cons, frz, vtup, Nat.reduceEqDiff, if_true, if_false, reduceIte]
    ·simp [holdsV, h1, h2, h3]
    ·simp [holdsV, h1, h2, h3, get_cons, frz]
   ·((repeat refine Ws ?_);refine Wt (by first|rfl|simp only [EV,zF,reduceIte]) ?_)
    ((repeat refine Ws ?_);refine W_regionE T_ok ?_; intro Kn hKn)
    ((simp (maxSteps := 1000000) only [VL,VM,↓VG,reduceIte,reduceCtorEq,zA,zB,zC,zD,zE,zF,zG,zH,zI,zJ]); rw [hKn];clear hKn Kn;simp only [QV,reduceIte,reduceCtorEq,Nat.reduceEqDiff])
    (repeat refine Ws ?_)
    refine W_ret ?_
    try simp only [thenQ, blockQ]
    refine own_ret2 rfl ?_ ?_ (by rfl) (by rfl)
    simp only [get_cons, frz, vtup, Nat.reduceEqDiff, if_true, if_false, reduceIte]
    ·simp [holdsV, h1, h2, h3]
    ·simp [holdsV, h1, h2, h3, get_cons, frz]
  ·((repeat refine Ws ?_);refine Wt (by first|rfl|simp only [EV,zF,reduceIte]) ?_)
   ((repeat refine Ws ?_);refine W_regionE T_ok ?_; intro Kn hKn)
   ((simp (maxSteps := 1000000) only [VL,VM,↓VG,reduceIte,reduceCtorEq,zA,zB,zC,zD,zE,zF,zG,zH,zI,zJ]); rw [hKn];clear hKn Kn;simp only [QV,reduceIte,reduceCtorEq,Nat.reduceEqDiff])
   (repeat refine Ws ?_)
   refine W_ret ?_
   try simp only [thenQ, blockQ]
   refine own_ret2 rfl ?_ ?_ (by rfl) (by rfl)
   simp only [get_cons, frz, vtup, Nat.reduceEqDiff, if_true, if_false, reduceIte]
   ·simp [holdsV, h1, h2]
   ·simp [holdsV, h1, h2, get_cons, frz]
 ·skip
  ((repeat refine Ws ?_);refine W_regionE T_ok ?_; intro Kn hKn)
  ((simp (maxSteps := 1000000) only [VL,VM,↓VG,reduceIte,reduceCtorEq,zA,zB,zC,zD,zE,zF,zG,zH,zI,zJ, h1]); rw [hKn];clear hKn Kn;simp only [QV,reduceIte,reduceCtorEq,Nat.reduceEqDiff])
  ((repeat refine Ws ?_);refine Wt (by first|rfl|simp only [EV,zF,reduceIte]) ?_)
  ((repeat refine Ws ?_);refine W_regionE T_ok ?_; intro Kn hKn)
  ((simp (maxSteps := 1000000) only [VL,VM,↓VG,reduceIte,reduceCtorEq,zA,zB,zC,zD,zE,zF,zG,zH,zI,zJ]); rw [hKn];clear hKn Kn;simp only [QV,reduceIte,reduceCtorEq,Nat.reduceEqDiff])
  (repeat refine Ws ?_)
  refine W_ret ?_
  try simp only [thenQ, blockQ]
  refine own_ret2 rfl ?_ ?_ (by rfl) (by rfl)
  simp only [get_cons, frz, vtup, Nat.reduceEqDiff, if_true, if_false, reduceIte]
  ·simp [holdsV, h1]
  ·simp [holdsV, h1, get_cons, frz]
end Go.Proofs.YtkipednlefbfpaaDoor.Vm
