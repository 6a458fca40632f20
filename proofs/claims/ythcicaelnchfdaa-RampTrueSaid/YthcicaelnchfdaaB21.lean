/- A part of the proofs about the chapter of the ramps; it states no condition of its own. -/
import Derived.Test.YthcicaelnchfdaaB15
import Derived.Test.YthcicaelnchfdaaB16
import Derived.Test.YthcicaelnchfdaaB20
set_option linter.unusedVariables false
set_option linter.unusedSimpArgs false
open Int renaming reduceLE → zA, reduceLT → zB, reduceToNat → zC, reduceNeg → zD
open Nat renaming reduceLT → zE, reduceEqDiff → zF, reduceAdd → zG, reduceSub → zH, reduceMul → zI, reduceLeDiff → zJ
/- The reference's Held, on values. (Vm) -/
namespace Go.Proofs.Ythcicaelnchfdaa.Vm
open Go Go.Proofs
set_option maxHeartbeats 4000000 in
theorem held_v (y : Ya) (p : List St) (tk : List Int) (M : Mem) (hl : p.length ≤ 1000000) (hc : p.length ≤ y.carts.length) (ht : p.length ≤ tk.length) (hs : -1000000 ≤ y.sweep ∧ y.sweep ≤ 1000000)
  (hr0 : ∀ i, i < p.length → 0 ≤ (stAt p i).ramp) (hr1 : ∀ i, i < p.length → (stAt p i).ramp < y.ramps.length) (hf : ∀ i, i < p.length → -1000000 ≤ (stAt p i).from_ ∧ (stAt p i).from_ ≤ 1000000) (hk : ∀ i, i < p.length → -1000000 ≤ tkAt tk i ∧ tkAt tk i ≤ 1000000) :
  VC Try.prog 38 [yardV y, stsV p, intsV tk] M (fun r M' => M' = M ∧ r = vb (heldB y p tk)) := by
 refine VC_own' T_ok (f := 38) (fn := Try.f38) (by kernel_rfl) rfl Try.ntmps38 (by rfl) (by rfl) ?_
 ((repeat refine Ws ?_);refine W_regionE T_ok ?_; intro Kn hKn)
 ((simp (maxSteps := 1000000) only [VL,VM,↓VG,reduceIte,reduceCtorEq,zA,zB,zC,zD,zE,zF,zG,zH,zI,zJ]); rw [hKn];clear hKn Kn;simp only [QV,reduceIte,reduceCtorEq,Nat.reduceEqDiff])
 ((repeat refine Ws ?_);refine W_regionE T_ok ?_; intro Kn hKn)
 ((simp (maxSteps := 1000000) only [VL,VM,↓VG,reduceIte,reduceCtorEq,zA,zB,zC,zD,zE,zF,zG,zH,zI,zJ]); rw [hKn];clear hKn Kn;simp only [QV,reduceIte,reduceCtorEq,Nat.reduceEqDiff])
 ((repeat refine Ws ?_);refine W_block ?_; (repeat refine Ws ?_)); refine W_loopS (fun (s : Nat × List VObj) => [(1, stsV p), (2, intsV tk), (3, .ptr M.H.length 0), (7, vi s.1)]) (fun s => ⟨M.H ++ .obj (yardC y) :: s.2, M.lg⟩) (fun s => p.length - s.1) (fun s => s.1 ≤ p.length ∧ (List.range s.1).all (okAll y p tk) = true) (0, []) ⟨by simp, by simp⟩ ⟨rfl, rfl, rfl, rfl, trivial⟩ rfl ?_
 rintro ⟨i, L⟩ ⟨hi, he⟩
 simp only at hi he
 have k1 : -9223372036854775808 ≤ (i : Int) + 1 ∧ (i : Int) + 1 < 9223372036854775808 := by omega
 ((repeat refine Ws ?_);refine W_regionE T_ok ?_; intro Kn hKn)
 rcases Nat.lt_or_ge i p.length with hlt | hge
 ·have k2 : ((i : Int) < (p.length : Int)) = True := eq_true (by omega)
  have hx' := map_at (f := stP) (stAt_get hlt)
  have hy' := map_at (f := ctP) (ctAt_get (y := y) (i := i) (by omega))
  have hz' := map_at (f := raP) (raAt_get (hr0 i hlt) (hr1 i hlt))
  have hw' := map_at (f := intP) (tkAt_get (l := tk) (i := i) (by omega))
  have b1 := hf i hlt
  have b2 := hk i hlt
  have b0 := hr0 i hlt
  have k3 : -9223372036854775808 ≤ (stAt p i).from_ + tkAt tk i ∧ (stAt p i).from_ + tkAt tk i < 9223372036854775808 := by omega
  have k4 : -9223372036854775808 ≤ (stAt p i).from_ + tkAt tk i + y.sweep ∧ (stAt p i).from_ + tkAt tk i + y.sweep < 9223372036854775808 := by omega
  have hbad : okAll y p tk i = false → heldB y p tk = false := fun h => range_hit hlt h
  have e1 : okSelf y p tk i = okSelf y p tk i := rfl
  conv at e1 => rhs; unfold okSelf
  ((simp (maxSteps := 1000000) only [VL,VM,↓VG,reduceIte,reduceCtorEq,zA,zB,zC,zD,zE,zF,zG,zH,zI,zJ, k2]); rw [hKn];clear hKn Kn;simp only [QV,reduceIte,reduceCtorEq,Nat.reduceEqDiff])
  ((repeat refine Ws ?_);refine Wt (by first|rfl|simp only [EV,zF,reduceIte]) ?_)
  (((repeat refine Ws ?_);refine W_skip ?_); simp only [QV,reduceIte,reduceCtorEq,Nat.reduceEqDiff])
  ((repeat refine Ws ?_);refine W_block ?_)
  (repeat refine Ws ?_)
  refine W_drawE T_ok [.obj [vi 0, vi 0], .obj [vi 0, vi 0, vi 0, vi 0, vi 0, .sf 0 []]] (by kernel_rfl) (by kernel_rfl) ?_
  intro Kn hKn
  generalize hi : mkPlan _ = infs
  cbv at hi
  subst hi
  ((simp (maxSteps := 1000000) only [VL,VM,↓VG,reduceIte,reduceCtorEq,zA,zB,zC,zD,zE,zF,zG,zH,zI,zJ, hx', hy']); rw [hKn];clear hKn Kn;simp only [QV,reduceIte,reduceCtorEq,Nat.reduceEqDiff])
  (repeat refine Ws ?_)
  refine W_drawE T_ok [.obj [vi 0, vi 0, vi 0]] (by kernel_rfl) (by kernel_rfl) ?_
  intro Kn hKn
  generalize hi : mkPlan _ = infs
  cbv at hi
  subst hi
  ((simp (maxSteps := 1000000) only [VL,VM,↓VG,reduceIte,reduceCtorEq,zA,zB,zC,zD,zE,zF,zG,zH,zI,zJ, b0, hz', hw', k3]); rw [hKn];clear hKn Kn;simp only [QV,reduceIte,reduceCtorEq,Nat.reduceEqDiff])
  ((repeat refine Ws ?_);refine W_regionE T_ok ?_; intro Kn hKn)
  by_cases c1 : (stAt p i).from_ < (ctAt y i).from_
  ·((simp (maxSteps := 1000000) only [VL,VM,↓VG,reduceIte,reduceCtorEq,zA,zB,zC,zD,zE,zF,zG,zH,zI,zJ, c1]); rw [hKn];clear hKn Kn;simp only [QV,reduceIte,reduceCtorEq,Nat.reduceEqDiff])
   ((repeat refine Ws ?_);refine Wt (by first|rfl|simp only [EV,zF,reduceIte]) ?_)
   ((repeat refine Ws ?_);refine W_regionE T_ok ?_; intro Kn hKn)
   ((simp (maxSteps := 1000000) only [VL,VM,↓VG,reduceIte,reduceCtorEq,zA,zB,zC,zD,zE,zF,zG,zH,zI,zJ]); rw [hKn];clear hKn Kn;simp only [QV,reduceIte,reduceCtorEq,Nat.reduceEqDiff])
   (repeat refine Ws ?_)
   refine W_ret ?_
   try simp only [thenQ, blockQ]
   refine own_ret1 rfl ?_ (by rfl)
   simp only [get_cons, frz, vtup, Nat.reduceEqDiff, if_true, if_false, reduceIte]
   rw [hbad (by rw [okAll, e1, decide_eq_false (by omega)]; rfl)]
  have d1 : (ctAt y i).from_ ≤ (stAt p i).from_ := by omega
  by_cases c2 : (stAt p i).from_ < (raAt y (stAt p i).ramp).open_
  ·((simp (maxSteps := 1000000) only [VL,VM,↓VG,reduceIte,reduceCtorEq,zA,zB,zC,zD,zE,zF,zG,zH,zI,zJ, c1, c2]); rw [hKn];clear hKn Kn;simp only [QV,reduceIte,reduceCtorEq,Nat.reduceEqDiff])
   ((repeat refine Ws ?_);refine Wt (by first|rfl|simp only [EV,zF,reduceIte]) ?_)
   ((repeat refine Ws ?_);refine W_regionE T_ok ?_; intro Kn hKn)
   ((simp (maxSteps := 1000000) only [VL,VM,↓VG,reduceIte,reduceCtorEq,zA,zB,zC,zD,zE,zF,zG,zH,zI,zJ]); rw [hKn];clear hKn Kn;simp only [QV,reduceIte,reduceCtorEq,Nat.reduceEqDiff])
   (repeat refine Ws ?_)
   refine W_ret ?_
   try simp only [thenQ, blockQ]
   refine own_ret1 rfl ?_ (by rfl)
   simp only [get_cons, frz, vtup, Nat.reduceEqDiff, if_true, if_false, reduceIte]
   rw [hbad (by rw [okAll, e1, decide_eq_false (p := (raAt y (stAt p i).ramp).open_ ≤ _) (by omega)]; simp)]
  have d2 : (raAt y (stAt p i).ramp).open_ ≤ (stAt p i).from_ := by omega
  by_cases c3 : (ctAt y i).until_ < (stAt p i).from_ + tkAt tk i
  ·((simp (maxSteps := 1000000) only [VL,VM,↓VG,reduceIte,reduceCtorEq,zA,zB,zC,zD,zE,zF,zG,zH,zI,zJ, c1, c2, c3]); rw [hKn];clear hKn Kn;simp only [QV,reduceIte,reduceCtorEq,Nat.reduceEqDiff])
   ((repeat refine Ws ?_);refine Wt (by first|rfl|simp only [EV,zF,reduceIte]) ?_)
   ((repeat refine Ws ?_);refine W_regionE T_ok ?_; intro Kn hKn)
   ((simp (maxSteps := 1000000) only [VL,VM,↓VG,reduceIte,reduceCtorEq,zA,zB,zC,zD,zE,zF,zG,zH,zI,zJ]); rw [hKn];clear hKn Kn;simp only [QV,reduceIte,reduceCtorEq,Nat.reduceEqDiff])
   (repeat refine Ws ?_)
   refine W_ret ?_
   try simp only [thenQ, blockQ]
   refine own_ret1 rfl ?_ (by rfl)
   simp only [get_cons, frz, vtup, Nat.reduceEqDiff, if_true, if_false, reduceIte]
   rw [hbad (by rw [okAll, e1, decide_eq_false (p := _ ≤ (ctAt y i).until_) (by omega)]; simp)]
  have d3 : (stAt p i).from_ + tkAt tk i ≤ (ctAt y i).until_ := by omega
  by_cases c4 : (raAt y (stAt p i).ramp).shut < (stAt p i).from_ + tkAt tk i
  ·((simp (maxSteps := 1000000) only [VL,VM,↓VG,reduceIte,reduceCtorEq,zA,zB,zC,zD,zE,zF,zG,zH,zI,zJ, c1, c2, c3, c4]); rw [hKn];clear hKn Kn;simp only [QV,reduceIte,reduceCtorEq,Nat.reduceEqDiff])
   ((repeat refine Ws ?_);refine Wt (by first|rfl|simp only [EV,zF,reduceIte]) ?_)
   ((repeat refine Ws ?_);refine W_regionE T_ok ?_; intro Kn hKn)
   ((simp (maxSteps := 1000000) only [VL,VM,↓VG,reduceIte,reduceCtorEq,zA,zB,zC,zD,zE,zF,zG,zH,zI,zJ]); rw [hKn];clear hKn Kn;simp only [QV,reduceIte,reduceCtorEq,Nat.reduceEqDiff])
   (repeat refine Ws ?_)
   refine W_ret ?_
   try simp only [thenQ, blockQ]
   refine own_ret1 rfl ?_ (by rfl)
   simp only [get_cons, frz, vtup, Nat.reduceEqDiff, if_true, if_false, reduceIte]
   rw [hbad (by rw [okAll, e1, decide_eq_false (p := _ ≤ (raAt y (stAt p i).ramp).shut) (by omega)]; simp)]
  have d4 : (stAt p i).from_ + tkAt tk i ≤ (raAt y (stAt p i).ramp).shut := by omega
  have e2 : okSelf y p tk i = true := by rw [e1]; simp [d1, d2, d3, d4]
  ((simp (maxSteps := 1000000) only [VL,VM,↓VG,reduceIte,reduceCtorEq,zA,zB,zC,zD,zE,zF,zG,zH,zI,zJ, c1, c2, c3, c4]); rw [hKn];clear hKn Kn;simp only [QV,reduceIte,reduceCtorEq,Nat.reduceEqDiff])
  ((repeat refine Ws ?_);refine Wf (by first|rfl|simp only [EV,zF,reduceIte]) ?_)
  (((repeat refine Ws ?_);refine W_skip ?_); simp only [QV,reduceIte,reduceCtorEq,Nat.reduceEqDiff])
  ((repeat refine Ws ?_);refine W_regionE T_ok ?_; intro Kn hKn)
  ((simp (maxSteps := 1000000) only [VL,VM,↓VG,reduceIte,reduceCtorEq,zA,zB,zC,zD,zE,zF,zG,zH,zI,zJ]); rw [hKn];clear hKn Kn;simp only [QV,reduceIte,reduceCtorEq,Nat.reduceEqDiff])
  obtain ⟨H1, hH1⟩ : ∃ H1, H1 = M.H ++ VObj.obj (yardC y) :: (L ++ [.obj [vi (stAt p i).ramp, vi (stAt p i).from_], .obj (ctC (ctAt y i)), .obj [vi (raAt y (stAt p i).ramp).open_, vi (raAt y (stAt p i).ramp).shut, vi (raAt y (stAt p i).ramp).bears]]) := ⟨_, rfl⟩
  obtain ⟨n8, hn8⟩ : ∃ n8, n8 = M.H.length + (L.length + 1) := ⟨_, rfl⟩
  have g1 : ∀ X, (H1 ++ X)[M.H.length]? = some (.obj (yardC y)) := fun X => by rw [hH1]; simp
  have g2 : ∀ X, (H1 ++ X)[n8]? = some (.obj [vi (stAt p i).ramp, vi (stAt p i).from_]) := fun X => by rw [hH1, hn8]; simp
  ((repeat refine Ws ?_);refine W_block ?_; (repeat refine Ws ?_)); refine W_loopS (fun (s : Nat × List VObj) => [(1, stsV p), (2, intsV tk), (3, .ptr M.H.length 0), (7, vi i), (8, .ptr n8 0), (11, vi ((stAt p i).from_ + tkAt tk i)), (12, vi s.1)]) (fun s => ⟨H1 ++ s.2, M.lg⟩) (fun s => p.length - s.1) (fun s => s.1 ≤ p.length ∧ (List.range s.1).all (okPair y p tk i) = true) (0, []) ⟨by simp, by simp⟩ ⟨rfl, rfl, rfl, rfl, by rw [hn8]; rfl, rfl, rfl, trivial⟩ (by rw [hH1]; simp) ?_
  rintro ⟨k, L2⟩ ⟨hk2, he2⟩
  simp only at hk2 he2
  have q1 : -9223372036854775808 ≤ (k : Int) + 1 ∧ (k : Int) + 1 < 9223372036854775808 := by omega
  ((repeat refine Ws ?_);refine W_regionE T_ok ?_; intro Kn hKn)
  rcases Nat.lt_or_ge k p.length with hlt2 | hge2
  ·have q2 : ((k : Int) < (p.length : Int)) = True := eq_true (by omega)
   have hx2 := map_at (f := stP) (stAt_get hlt2)
   have hgo : okPair y p tk i k = true → (List.range (k + 1)).all (okPair y p tk i) = true := fun h => by rw [range_take, he2, h]; rfl
   have hno : okPair y p tk i k = false → heldB y p tk = false := fun h => hbad (by rw [okAll, range_hit hlt2 h, Bool.and_false])
   have e3 : okPair y p tk i k = okPair y p tk i k := rfl
   conv at e3 => rhs; unfold okPair
   ((simp (maxSteps := 1000000) only [VL,VM,↓VG,reduceIte,reduceCtorEq,zA,zB,zC,zD,zE,zF,zG,zH,zI,zJ, q2]); rw [hKn];clear hKn Kn;simp only [QV,reduceIte,reduceCtorEq,Nat.reduceEqDiff])
   ((repeat refine Ws ?_);refine Wt (by first|rfl|simp only [EV,zF,reduceIte]) ?_)
   (((repeat refine Ws ?_);refine W_skip ?_); simp only [QV,reduceIte,reduceCtorEq,Nat.reduceEqDiff])
   ((repeat refine Ws ?_);refine W_block ?_)
   ((repeat refine Ws ?_);refine W_regionE T_ok ?_; intro Kn hKn)
   ((simp (maxSteps := 1000000) only [VL,VM,↓VG,reduceIte,reduceCtorEq,zA,zB,zC,zD,zE,zF,zG,zH,zI,zJ, hx2]); rw [hKn];clear hKn Kn;simp only [QV,reduceIte,reduceCtorEq,Nat.reduceEqDiff])
   ((repeat refine Ws ?_);refine W_regionE T_ok ?_; intro Kn hKn)
   by_cases m1 : k = i
   ·have m1' : ((k : Int) = (i : Int)) = True := eq_true (by omega)
    ((simp (maxSteps := 1000000) only [VL,VM,↓VG,reduceIte,reduceCtorEq,zA,zB,zC,zD,zE,zF,zG,zH,zI,zJ, g1, g2, k4, m1']); rw [hKn];clear hKn Kn;simp only [QV,reduceIte,reduceCtorEq,Nat.reduceEqDiff])
    ((repeat refine Ws ?_);refine Wf (by first|rfl|simp only [EV,zF,reduceIte]) ?_)
    (((repeat refine Ws ?_);refine W_skip ?_); simp only [QV,reduceIte,reduceCtorEq,Nat.reduceEqDiff])
    ((repeat refine Ws ?_);refine W_regionE T_ok ?_; intro Kn hKn)
    ((simp (maxSteps := 1000000) only [VL,VM,↓VG,reduceIte,reduceCtorEq,zA,zB,zC,zD,zE,zF,zG,zH,zI,zJ, q1]); rw [hKn];clear hKn Kn;simp only [QV,reduceIte,reduceCtorEq,Nat.reduceEqDiff])
    exact LoopK.mk (k + 1, _) (by simp; omega) ⟨by simp; omega, hgo (by rw [e3]; simp [m1])⟩ ⟨rfl, rfl, rfl, rfl, rfl, rfl, rfl, trivial⟩ rfl
   have m1' : ((k : Int) = (i : Int)) = False := eq_false (by omega)
   by_cases m2 : (stAt p k).ramp = (stAt p i).ramp
   ·by_cases m3 : (stAt p i).from_ < (stAt p k).from_
    ·by_cases m5 : (stAt p k).from_ < (stAt p i).from_ + tkAt tk i + y.sweep
     ·((simp (maxSteps := 1000000) only [VL,VM,↓VG,reduceIte,reduceCtorEq,zA,zB,zC,zD,zE,zF,zG,zH,zI,zJ, g1, g2, k4, m1', m2, m3, m5]); rw [hKn];clear hKn Kn;simp only [QV,reduceIte,reduceCtorEq,Nat.reduceEqDiff])
      ((repeat refine Ws ?_);refine Wt (by first|rfl|simp only [EV,zF,reduceIte]) ?_)
      ((repeat refine Ws ?_);refine W_regionE T_ok ?_; intro Kn hKn)
      ((simp (maxSteps := 1000000) only [VL,VM,↓VG,reduceIte,reduceCtorEq,zA,zB,zC,zD,zE,zF,zG,zH,zI,zJ]); rw [hKn];clear hKn Kn;simp only [QV,reduceIte,reduceCtorEq,Nat.reduceEqDiff])
      rw [hH1, List.append_assoc]
      (repeat refine Ws ?_)
      refine W_ret ?_
      try simp only [thenQ, blockQ]
      refine own_ret1 rfl ?_ (by rfl)
      simp only [get_cons, frz, vtup, Nat.reduceEqDiff, if_true, if_false, reduceIte]
      rw [hno (by rw [e3]; simp [m1, m2, m3, m5])]
     ·((simp (maxSteps := 1000000) only [VL,VM,↓VG,reduceIte,reduceCtorEq,zA,zB,zC,zD,zE,zF,zG,zH,zI,zJ, g1, g2, k4, m1', m2, m3, m5]); rw [hKn];clear hKn Kn;simp only [QV,reduceIte,reduceCtorEq,Nat.reduceEqDiff])
      ((repeat refine Ws ?_);refine Wf (by first|rfl|simp only [EV,zF,reduceIte]) ?_)
      (((repeat refine Ws ?_);refine W_skip ?_); simp only [QV,reduceIte,reduceCtorEq,Nat.reduceEqDiff])
      ((repeat refine Ws ?_);refine W_regionE T_ok ?_; intro Kn hKn)
      ((simp (maxSteps := 1000000) only [VL,VM,↓VG,reduceIte,reduceCtorEq,zA,zB,zC,zD,zE,zF,zG,zH,zI,zJ, q1]); rw [hKn];clear hKn Kn;simp only [QV,reduceIte,reduceCtorEq,Nat.reduceEqDiff])
      exact LoopK.mk (k + 1, _) (by simp; omega) ⟨by simp; omega, hgo (by rw [e3]; simp [m1, m2, m3, m5])⟩ ⟨rfl, rfl, rfl, rfl, rfl, rfl, rfl, trivial⟩ rfl
    ·by_cases m4 : (stAt p k).from_ = (stAt p i).from_
     ·by_cases m6 : i < k
      ·have m6' : ((i : Int) < (k : Int)) = True := eq_true (by omega)
       by_cases m5 : (stAt p i).from_ < (stAt p i).from_ + tkAt tk i + y.sweep
       ·((simp (maxSteps := 1000000) only [VL,VM,↓VG,reduceIte,reduceCtorEq,zA,zB,zC,zD,zE,zF,zG,zH,zI,zJ, g1, g2, k4, m1', m2, m3, m4, m5, m6', Int.lt_irrefl]); rw [hKn];clear hKn Kn;simp only [QV,reduceIte,reduceCtorEq,Nat.reduceEqDiff])
        ((repeat refine Ws ?_);refine Wt (by first|rfl|simp only [EV,zF,reduceIte]) ?_)
        ((repeat refine Ws ?_);refine W_regionE T_ok ?_; intro Kn hKn)
        ((simp (maxSteps := 1000000) only [VL,VM,↓VG,reduceIte,reduceCtorEq,zA,zB,zC,zD,zE,zF,zG,zH,zI,zJ]); rw [hKn];clear hKn Kn;simp only [QV,reduceIte,reduceCtorEq,Nat.reduceEqDiff])
        rw [hH1, List.append_assoc]
        (repeat refine Ws ?_)
        refine W_ret ?_
        try simp only [thenQ, blockQ]
        refine own_ret1 rfl ?_ (by rfl)
        simp only [get_cons, frz, vtup, Nat.reduceEqDiff, if_true, if_false, reduceIte]
        rw [hno (by rw [e3]; simp [m1, m2, m4, m5, m6])]
       ·((simp (maxSteps := 1000000) only [VL,VM,↓VG,reduceIte,reduceCtorEq,zA,zB,zC,zD,zE,zF,zG,zH,zI,zJ, g1, g2, k4, m1', m2, m3, m4, m5, m6', Int.lt_irrefl]); rw [hKn];clear hKn Kn;simp only [QV,reduceIte,reduceCtorEq,Nat.reduceEqDiff])
        ((repeat refine Ws ?_);refine Wf (by first|rfl|simp only [EV,zF,reduceIte]) ?_)
        (((repeat refine Ws ?_);refine W_skip ?_); simp only [QV,reduceIte,reduceCtorEq,Nat.reduceEqDiff])
        ((repeat refine Ws ?_);refine W_regionE T_ok ?_; intro Kn hKn)
        ((simp (maxSteps := 1000000) only [VL,VM,↓VG,reduceIte,reduceCtorEq,zA,zB,zC,zD,zE,zF,zG,zH,zI,zJ, q1]); rw [hKn];clear hKn Kn;simp only [QV,reduceIte,reduceCtorEq,Nat.reduceEqDiff])
        exact LoopK.mk (k + 1, _) (by simp; omega) ⟨by simp; omega, hgo (by rw [e3]; simp [m1, m2, m4, m5, m6])⟩ ⟨rfl, rfl, rfl, rfl, rfl, rfl, rfl, trivial⟩ rfl
      ·have m6' : ((i : Int) < (k : Int)) = False := eq_false (by omega)
       ((simp (maxSteps := 1000000) only [VL,VM,↓VG,reduceIte,reduceCtorEq,zA,zB,zC,zD,zE,zF,zG,zH,zI,zJ, g1, g2, k4, m1', m2, m3, m4, m6', Int.lt_irrefl]); rw [hKn];clear hKn Kn;simp only [QV,reduceIte,reduceCtorEq,Nat.reduceEqDiff])
       ((repeat refine Ws ?_);refine Wf (by first|rfl|simp only [EV,zF,reduceIte]) ?_)
       (((repeat refine Ws ?_);refine W_skip ?_); simp only [QV,reduceIte,reduceCtorEq,Nat.reduceEqDiff])
       ((repeat refine Ws ?_);refine W_regionE T_ok ?_; intro Kn hKn)
       ((simp (maxSteps := 1000000) only [VL,VM,↓VG,reduceIte,reduceCtorEq,zA,zB,zC,zD,zE,zF,zG,zH,zI,zJ, q1]); rw [hKn];clear hKn Kn;simp only [QV,reduceIte,reduceCtorEq,Nat.reduceEqDiff])
       exact LoopK.mk (k + 1, _) (by simp; omega) ⟨by simp; omega, hgo (by rw [e3]; simp [m1, m2, m4, m6])⟩ ⟨rfl, rfl, rfl, rfl, rfl, rfl, rfl, trivial⟩ rfl
     ·((simp (maxSteps := 1000000) only [VL,VM,↓VG,reduceIte,reduceCtorEq,zA,zB,zC,zD,zE,zF,zG,zH,zI,zJ, g1, g2, k4, m1', m2, m3, m4]); rw [hKn];clear hKn Kn;simp only [QV,reduceIte,reduceCtorEq,Nat.reduceEqDiff])
      ((repeat refine Ws ?_);refine Wf (by first|rfl|simp only [EV,zF,reduceIte]) ?_)
      (((repeat refine Ws ?_);refine W_skip ?_); simp only [QV,reduceIte,reduceCtorEq,Nat.reduceEqDiff])
      ((repeat refine Ws ?_);refine W_regionE T_ok ?_; intro Kn hKn)
      ((simp (maxSteps := 1000000) only [VL,VM,↓VG,reduceIte,reduceCtorEq,zA,zB,zC,zD,zE,zF,zG,zH,zI,zJ, q1]); rw [hKn];clear hKn Kn;simp only [QV,reduceIte,reduceCtorEq,Nat.reduceEqDiff])
      exact LoopK.mk (k + 1, _) (by simp; omega) ⟨by simp; omega, hgo (by rw [e3]; simp [m1, m2, m3, m4])⟩ ⟨rfl, rfl, rfl, rfl, rfl, rfl, rfl, trivial⟩ rfl
   ·((simp (maxSteps := 1000000) only [VL,VM,↓VG,reduceIte,reduceCtorEq,zA,zB,zC,zD,zE,zF,zG,zH,zI,zJ, g1, g2, k4, m1', m2]); rw [hKn];clear hKn Kn;simp only [QV,reduceIte,reduceCtorEq,Nat.reduceEqDiff])
    ((repeat refine Ws ?_);refine Wf (by first|rfl|simp only [EV,zF,reduceIte]) ?_)
    (((repeat refine Ws ?_);refine W_skip ?_); simp only [QV,reduceIte,reduceCtorEq,Nat.reduceEqDiff])
    ((repeat refine Ws ?_);refine W_regionE T_ok ?_; intro Kn hKn)
    ((simp (maxSteps := 1000000) only [VL,VM,↓VG,reduceIte,reduceCtorEq,zA,zB,zC,zD,zE,zF,zG,zH,zI,zJ, q1]); rw [hKn];clear hKn Kn;simp only [QV,reduceIte,reduceCtorEq,Nat.reduceEqDiff])
    exact LoopK.mk (k + 1, _) (by simp; omega) ⟨by simp; omega, hgo (by rw [e3]; simp [m1, m2])⟩ ⟨rfl, rfl, rfl, rfl, rfl, rfl, rfl, trivial⟩ rfl
  ·have q2 : ((k : Int) < (p.length : Int)) = False := eq_false (by omega)
   obtain rfl : k = p.length := by omega
   ((simp (maxSteps := 1000000) only [VL,VM,↓VG,reduceIte,reduceCtorEq,zA,zB,zC,zD,zE,zF,zG,zH,zI,zJ, q2]); rw [hKn];clear hKn Kn;simp only [QV,reduceIte,reduceCtorEq,Nat.reduceEqDiff])
   ((repeat refine Ws ?_);refine Wf (by first|rfl|simp only [EV,zF,reduceIte]) ?_)
   (((repeat refine Ws ?_);refine W_exit ?_); simp only [QV,reduceIte,reduceCtorEq,Nat.reduceEqDiff])
   ((repeat refine Ws ?_);refine W_regionE T_ok ?_; intro Kn hKn)
   ((simp (maxSteps := 1000000) only [VL,VM,↓VG,reduceIte,reduceCtorEq,zA,zB,zC,zD,zE,zF,zG,zH,zI,zJ, k1]); rw [hKn];clear hKn Kn;simp only [QV,reduceIte,reduceCtorEq,Nat.reduceEqDiff])
   refine LoopK.mk (i + 1, _) (by simp; omega) ⟨by simp; omega, ?_⟩ ⟨rfl, rfl, rfl, rfl, trivial⟩ (by rw [hH1]; simp; rfl)
   rw [range_take, he, okAll, e2, he2]; rfl
 ·have k2 : ((i : Int) < (p.length : Int)) = False := eq_false (by omega)
  obtain rfl : i = p.length := by omega
  ((simp (maxSteps := 1000000) only [VL,VM,↓VG,reduceIte,reduceCtorEq,zA,zB,zC,zD,zE,zF,zG,zH,zI,zJ, k2]); rw [hKn];clear hKn Kn;simp only [QV,reduceIte,reduceCtorEq,Nat.reduceEqDiff])
  ((repeat refine Ws ?_);refine Wf (by first|rfl|simp only [EV,zF,reduceIte]) ?_)
  (((repeat refine Ws ?_);refine W_exit ?_); simp only [QV,reduceIte,reduceCtorEq,Nat.reduceEqDiff])
  ((repeat refine Ws ?_);refine W_regionE T_ok ?_; intro Kn hKn)
  ((simp (maxSteps := 1000000) only [VL,VM,↓VG,reduceIte,reduceCtorEq,zA,zB,zC,zD,zE,zF,zG,zH,zI,zJ]); rw [hKn];clear hKn Kn;simp only [QV,reduceIte,reduceCtorEq,Nat.reduceEqDiff])
  (repeat refine Ws ?_)
  refine W_ret ?_
  try simp only [thenQ, blockQ]
  refine own_ret1 rfl ?_ (by rfl)
  simp only [get_cons, frz, vtup, Nat.reduceEqDiff, if_true, if_false, reduceIte]
  rw [heldB, he]
end Go.Proofs.Ythcicaelnchfdaa.Vm

/- The reference's Longest, Shortest, Holds, Away, on values. (Vm) -/
namespace Go.Proofs.Ythcicaelnchfdaa.Vm
open Go Go.Proofs
def holdsV (y : Ya) (p : List St) : Int × Int := if plErr y p = 0 then (if heldB y p (longest y) then (1, 0) else if heldB y p (shortest y) then (3, 0) else (2, 0)) else (0, plErr y p)
theorem held_l (y : Ya) (p : List St) (M : Mem) (hy : YaV y) (hp : PlV y p) (tk : List Int) (ht : tk.length = y.carts.length) (hk : ∀ x ∈ tk, -1000000 ≤ x ∧ x ≤ 1000000) : VC Try.prog 38 [yardV y, stsV p, intsV tk] M (fun r M' => M' = M ∧ r = vb (heldB y p tk)) := by
 have h1 := hp.len
 have h2 := hy.m1
 have h3 := hy.s0
 have h4 := hy.s1
 exact held_v y p tk M (by omega) (by omega) (by omega) (by omega) hp.r0 hp.r1 (fun i hi => by have a := hp.f0 i hi; have b := hp.f1 i hi; omega) (fun i hi => hk _ (tkAt_mem (by omega)))
theorem own_ret2 {T : Tab} {f : Nat} {fn : Func} {M : Mem} {L : List VObj} {e : Env} {t t' : Nat} {X Y : VV} (h1 : fn.results.toList = [.tmp t, .tmp t']) (hr : frz M.H.length (M.H ++ L) (get e t) = X) (hr' : frz M.H.length (M.H ++ L) (get e t') = Y) (h2 : refs X = []) (h2' : refs Y = []) : ownQ T f fn M (fun r M' => M' = M ∧ r = .tup [X, Y]) .ret e ⟨M.H ++ L, M.lg⟩ [] :=
 own_ret (vs := [get e t, get e t']) (by rw [h1]; rfl) (by simp only [vtup, frz, frzL, hr, hr']) (by simp [refs, refsL, h2, h2']) ⟨rfl, rfl⟩
end Go.Proofs.Ythcicaelnchfdaa.Vm

/- Away, Last, Before, on values. (Vm) -/
namespace Go.Proofs.Ythcicaelnchfdaa.Vm
open Go Go.Proofs
theorem awayL_len (y : Ya) (p : List St) : (awayL y p).length = min p.length y.carts.length := by simp [awayL]
theorem awayL_take {y : Ya} {p : List St} {i : Nat} (h : i < p.length) (h' : i < y.carts.length) : (awayL y p).take (i + 1) = (awayL y p).take i ++ [⟨(stAt p i).from_ + (ctAt y i).takes.lo, (stAt p i).from_ + (ctAt y i).takes.hi⟩] := by
 rw [List.take_add_one]
 congr 1
 have hz : (p.zip y.carts)[i]? = some (p[i], y.carts[i]) := by simp [List.getElem?_zip_eq_some, h, h']
 simp [awayL, stAt, ctAt, h, h', hz]
def awayV (y : Ya) (p : List St) : VV := if plErr y p = 0 then .tup [spsV (awayL y p), vi 0] else .tup [spsV [], vi (plErr y p)]
theorem away_v (y : Ya) (p : List St) (M : Mem) (hn : y.ramps.length ≤ 1000000) (hm : y.carts.length ≤ 1000000) (hl : ∀ c ∈ y.carts, c.ramps.length ≤ 1000000) (hp : p.length ≤ 1000000) : VC Try.prog 46 [yardV y, stsV p] M (fun r M' => M' = M ∧ r = awayV y p) := by
 refine VC_own' T_ok (f := 46) (fn := Try.f46) (by kernel_rfl) rfl Try.ntmps46 (by rfl) (by rfl) ?_
 ((repeat refine Ws ?_);refine W_regionE T_ok ?_; intro Kn hKn)
 ((simp (maxSteps := 1000000) only [VL,VM,↓VG,reduceIte,reduceCtorEq,zA,zB,zC,zD,zE,zF,zG,zH,zI,zJ]); rw [hKn];clear hKn Kn;simp only [QV,reduceIte,reduceCtorEq,Nat.reduceEqDiff])
 ((repeat refine Ws ?_);refine W_regionE T_ok ?_; intro Kn hKn)
 simp (maxSteps := 1000000) only [VL,VM,↓VG,reduceIte,reduceCtorEq,zA,zB,zC,zD,zE,zF,zG,zH,zI,zJ]
 apply call_eq (f := 49) (fn := Try.f49) (by kernel_rfl) (by rfl)
 ·exact checkPlan_v y p _ hn hm hl hp
 ((simp (maxSteps := 1000000) only [VL,VM,↓VG,reduceIte,reduceCtorEq,zA,zB,zC,zD,zE,zF,zG,zH,zI,zJ]); rw [hKn];clear hKn Kn;simp only [QV,reduceIte,reduceCtorEq,Nat.reduceEqDiff])
 ((repeat refine Ws ?_);refine W_regionE T_ok ?_; intro Kn hKn)
 by_cases h1 : plErr y p = 0
 ·((simp (maxSteps := 1000000) only [VL,VM,↓VG,reduceIte,reduceCtorEq,zA,zB,zC,zD,zE,zF,zG,zH,zI,zJ, h1]); rw [hKn];clear hKn Kn;simp only [QV,reduceIte,reduceCtorEq,Nat.reduceEqDiff])
  ((repeat refine Ws ?_);refine Wf (by first|rfl|simp only [EV,zF,reduceIte]) ?_)
  (((repeat refine Ws ?_);refine W_skip ?_); simp only [QV,reduceIte,reduceCtorEq,Nat.reduceEqDiff])
  obtain ⟨hy, hpl⟩ := plErr_ok.1 h1
  have hlen := hpl.len
  have hc7 := hy.m1
  ((repeat refine Ws ?_);refine W_regionE T_ok ?_; intro Kn hKn)
  ((simp (maxSteps := 1000000) only [VL,VM,↓VG,reduceIte,reduceCtorEq,zA,zB,zC,zD,zE,zF,zG,zH,zI,zJ]); rw [hKn];clear hKn Kn;simp only [QV,reduceIte,reduceCtorEq,Nat.reduceEqDiff])
  (repeat refine Ws ?_)
  refine W_tok (t := 7) (k := 2) rfl ?_
  ((repeat refine Ws ?_);refine W_regionE T_ok ?_; intro Kn hKn)
  ((simp (maxSteps := 1000000) only [VL,VM,↓VG,reduceIte,reduceCtorEq,zA,zB,zC,zD,zE,zF,zG,zH,zI,zJ]); rw [hKn];clear hKn Kn;simp only [QV,reduceIte,reduceCtorEq,Nat.reduceEqDiff])
  ((repeat refine Ws ?_);refine W_block ?_; (repeat refine Ws ?_)); refine W_loopS (fun s : Nat × List VObj => [(2, .ptr M.H.length 0), (7, .so (M.H.length + 1) 2 (((awayL y p).take s.1).map spP)), (17, stsV p), (18, vi p.length), (19, vi s.1)]) (fun s => ⟨M.H ++ .obj (yardC y) :: .clm s.1 2 :: s.2, M.lg⟩) (fun s => p.length - s.1) (fun s => s.1 ≤ p.length) (0, []) (Nat.zero_le _) ⟨rfl, rfl, rfl, rfl, rfl, trivial⟩ rfl ?_
  rintro ⟨i, L⟩ hi
  simp only at hi
  have k1 : -9223372036854775808 ≤ (i : Int) + 1 ∧ (i : Int) + 1 < 9223372036854775808 := by omega
  ((repeat refine Ws ?_);refine W_regionE T_ok ?_; intro Kn hKn)
  rcases Nat.lt_or_ge i p.length with hlt | hge
  ·have k2 : ((i : Int) < (p.length : Int)) = True := eq_true (by omega)
   have hlt2 : i < y.carts.length := by omega
   have hx' := map_at (f := stP) (stAt_get hlt)
   have hy' := map_at (f := ctP) (ctAt_get hlt2)
   have hv := hy.ct _ (ctAt_mem hlt2)
   have f0 := hpl.f0 i hlt
   have f1 := hpl.f1 i hlt
   have l0 := hv.l0
   have l1 := hv.lh
   have l2 := hv.h1
   have q0 : ((awayL y p).take i).length = i := by rw [List.length_take, awayL_len]; omega
   have q1 : ((i + 1) * 16 ≤ 140737488355328) = True := eq_true (by omega)
   have q2 : -9223372036854775808 ≤ (stAt p i).from_ + (ctAt y i).takes.lo ∧ (stAt p i).from_ + (ctAt y i).takes.lo < 9223372036854775808 := by omega
   have q3 : -9223372036854775808 ≤ (stAt p i).from_ + (ctAt y i).takes.hi ∧ (stAt p i).from_ + (ctAt y i).takes.hi < 9223372036854775808 := by omega
   have key := awayL_take hlt hlt2
   generalize (awayL y p).take i = l at q0 key ⊢
   ((simp (maxSteps := 1000000) only [VL,VM,↓VG,reduceIte,reduceCtorEq,zA,zB,zC,zD,zE,zF,zG,zH,zI,zJ, k2]); rw [hKn];clear hKn Kn;simp only [QV,reduceIte,reduceCtorEq,Nat.reduceEqDiff])
   ((repeat refine Ws ?_);refine Wt (by first|rfl|simp only [EV,zF,reduceIte]) ?_)
   (((repeat refine Ws ?_);refine W_skip ?_); simp only [QV,reduceIte,reduceCtorEq,Nat.reduceEqDiff])
   ((repeat refine Ws ?_);refine W_block ?_)
   ((repeat refine Ws ?_);refine W_regionE T_ok ?_; intro Kn hKn)
   ((simp (maxSteps := 1000000) only [VL,VM,↓VG,reduceIte,reduceCtorEq,zA,zB,zC,zD,zE,zF,zG,zH,zI,zJ, hx']); rw [hKn];clear hKn Kn;simp only [QV,reduceIte,reduceCtorEq,Nat.reduceEqDiff])
   ((repeat refine Ws ?_);refine W_regionE T_ok ?_; intro Kn hKn)
   ((simp (maxSteps := 1000000) only [VL,VM,↓VG,reduceIte,reduceCtorEq,zA,zB,zC,zD,zE,zF,zG,zH,zI,zJ, hy']); rw [hKn];clear hKn Kn;simp only [QV,reduceIte,reduceCtorEq,Nat.reduceEqDiff])
   ((repeat refine Ws ?_);refine W_regionE T_ok ?_; intro Kn hKn)
   ((simp (maxSteps := 1000000) only [VL,VM,↓VG,reduceIte,reduceCtorEq,zA,zB,zC,zD,zE,zF,zG,zH,zI,zJ, q0, q1, q2, q3]); rw [hKn];clear hKn Kn;simp only [QV,reduceIte,reduceCtorEq,Nat.reduceEqDiff])
   ((repeat refine Ws ?_);refine W_regionE T_ok ?_; intro Kn hKn)
   ((simp (maxSteps := 1000000) only [VL,VM,↓VG,reduceIte,reduceCtorEq,zA,zB,zC,zD,zE,zF,zG,zH,zI,zJ, k1]); rw [hKn];clear hKn Kn;simp only [QV,reduceIte,reduceCtorEq,Nat.reduceEqDiff])
   refine LoopK.mk (i + 1, _) (by simp; omega) (by simp; omega) ⟨rfl, ?_, rfl, rfl, rfl, trivial⟩ rfl
   rw [key]; simp [get_cons]
  ·have k2 : ((i : Int) < (p.length : Int)) = False := eq_false (by omega)
   obtain rfl : i = p.length := by omega
   ((simp (maxSteps := 1000000) only [VL,VM,↓VG,reduceIte,reduceCtorEq,zA,zB,zC,zD,zE,zF,zG,zH,zI,zJ, k2]); rw [hKn];clear hKn Kn;simp only [QV,reduceIte,reduceCtorEq,Nat.reduceEqDiff])
   ((repeat refine Ws ?_);refine Wf (by first|rfl|simp only [EV,zF,reduceIte]) ?_)
   (((repeat refine Ws ?_);refine W_exit ?_); simp only [QV,reduceIte,reduceCtorEq,Nat.reduceEqDiff])
   ((repeat refine Ws ?_);refine W_regionE T_ok ?_; intro Kn hKn)
   ((simp (maxSteps := 1000000) only [VL,VM,↓VG,reduceIte,reduceCtorEq,zA,zB,zC,zD,zE,zF,zG,zH,zI,zJ]); rw [hKn];clear hKn Kn;simp only [QV,reduceIte,reduceCtorEq,Nat.reduceEqDiff])
   rw [show awayV y p = .tup [spsV (awayL y p), vi 0] by rw [awayV, if_pos h1]]
   (repeat refine Ws ?_)
   refine W_ret ?_
   try simp only [thenQ, blockQ]
   refine own_ret2 rfl ?_ ?_ (by rfl) (by rfl)
   simp only [get_cons, frz, vtup, Nat.reduceEqDiff, if_true, if_false, reduceIte]
   ·rw [List.take_of_length_le (by rw [awayL_len]; omega)]
   ·simp [get_cons, frz]
 ·((simp (maxSteps := 1000000) only [VL,VM,↓VG,reduceIte,reduceCtorEq,zA,zB,zC,zD,zE,zF,zG,zH,zI,zJ, h1]); rw [hKn];clear hKn Kn;simp only [QV,reduceIte,reduceCtorEq,Nat.reduceEqDiff])
  ((repeat refine Ws ?_);refine Wt (by first|rfl|simp only [EV,zF,reduceIte]) ?_)
  ((repeat refine Ws ?_);refine W_regionE T_ok ?_; intro Kn hKn)
  ((simp (maxSteps := 1000000) only [VL,VM,↓VG,reduceIte,reduceCtorEq,zA,zB,zC,zD,zE,zF,zG,zH,zI,zJ]); rw [hKn];clear hKn Kn;simp only [QV,reduceIte,reduceCtorEq,Nat.reduceEqDiff])
  (repeat refine Ws ?_)
  refine W_nil (t := 4) (k := 2) rfl ?_
  rw [show awayV y p = .tup [spsV [], vi (plErr y p)] by rw [awayV, if_neg h1]]
  (repeat refine Ws ?_)
  refine W_ret ?_
  try simp only [thenQ, blockQ]
  refine own_ret2 rfl ?_ ?_ (by rfl) (by rfl)
  simp only [get_cons, frz, vtup, Nat.reduceEqDiff, if_true, if_false, reduceIte]
  ·rfl
  ·simp [get_cons, frz]
end Go.Proofs.Ythcicaelnchfdaa.Vm

/- Last, Before, on values. (Vm) -/
namespace Go.Proofs.Ythcicaelnchfdaa.Vm
open Go Go.Proofs
theorem beforeB_at {a b : List St} {i : Nat} (h : i < a.length) (h' : i < b.length) : beforeB (a.drop i) (b.drop i) = if stAt a i = stAt b i then beforeB (a.drop (i + 1)) (b.drop (i + 1)) else sltB (stAt a i) (stAt b i) := by
 have h1 : stAt a i = a[i] := by simp [stAt, h]
 have h2 : stAt b i = b[i] := by simp [stAt, h']
 rw [drop_at h, drop_at h', beforeB, h1, h2]
end Go.Proofs.Ythcicaelnchfdaa.Vm
