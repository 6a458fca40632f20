/- A part of the proofs about the chapter of the doors; it states no condition of its own. -/
import Derived.Test.YtmagiabapakhcaaB46
set_option linter.unusedVariables false
set_option linter.unusedSimpArgs false
open Int renaming reduceLE → zA, reduceLT → zB, reduceToNat → zC, reduceNeg → zD
open Nat renaming reduceLT → zE, reduceEqDiff → zF, reduceAdd → zG, reduceSub → zH, reduceMul → zI, reduceLeDiff → zJ
/- The reference: how many portions can be eaten, on values. (Vm) -/
namespace Go.Proofs.Ytmagiabapakhcaa.Vm
open Go Go.Proofs
theorem FB_pack {H0 : List VObj} {N : Nat} {R : List (List Int)} (hs : Sq N R) {a b : Nat} (ha : a < N) (hb : b < N) (x : Int) (L : List VObj) :
  (FB H0 N R ++ L)[H0.length]? = some (.obj ((List.range N).map fun i => .bf (H0.length + (1 + i)) 0 N 1)) ∧ ((List.range N).map fun i => VV.bf (H0.length + (1 + i)) 0 N 1)[a]? = some (.bf (H0.length + (1 + a)) 0 N 1) ∧ (FB H0 N R ++ L)[H0.length + (1 + a)]? = some (.obj ((R.getD a []).map vi)) ∧ ((R.getD a []).map vi)[b]? = some (vi (at2 R a b)) ∧ (b + 1 ≤ (R.getD a []).length) = True ∧
   List.map vi (List.take b (R.getD a [])) ++ vi x :: List.map vi (List.drop (b + 1) (R.getD a [])) = List.map vi ((R.getD a []).set b x) ∧ (FB H0 N R ++ L).set (H0.length + (1 + a)) (.obj (((R.getD a []).set b x).map vi)) = FB H0 N (upd2 R a b x) ++ L ∧ (a < N) = True ∧ (b < N) = True := by
 have f0 := FB_row (H0 := H0) hs L ha
 have fs := FB_set (H0 := H0) hs L ha b x
 have hra := FB_rowat (H0 := H0) ha
 have f1 := FB_0 (H0 := H0) (N := N) (R := R) L
 simp only [Nat.add_assoc] at f0 fs hra f1
 exact ⟨f1, hra, f0, FB_cell hs ha hb, FB_le hs ha hb, FB_sp hs ha hb x, fs, eq_true ha, eq_true hb⟩
theorem FB_pack0 {H0 : List VObj} {N : Nat} {R : List (List Int)} (hs : Sq N R) {a b : Nat} (ha : a < N) (hb : b < N) (x : Int) :
  (FB H0 N R)[H0.length]? = some (.obj ((List.range N).map fun i => .bf (H0.length + (1 + i)) 0 N 1)) ∧ ((List.range N).map fun i => VV.bf (H0.length + (1 + i)) 0 N 1)[a]? = some (.bf (H0.length + (1 + a)) 0 N 1) ∧ (FB H0 N R)[H0.length + (1 + a)]? = some (.obj ((R.getD a []).map vi)) ∧ ((R.getD a []).map vi)[b]? = some (vi (at2 R a b)) ∧ (b + 1 ≤ (R.getD a []).length) = True ∧
   List.map vi (List.take b (R.getD a [])) ++ vi x :: List.map vi (List.drop (b + 1) (R.getD a [])) = List.map vi ((R.getD a []).set b x) ∧ (FB H0 N R).set (H0.length + (1 + a)) (.obj (((R.getD a []).set b x).map vi)) = FB H0 N (upd2 R a b x) ∧ (a < N) = True ∧ (b < N) = True := by
 have := FB_pack (H0 := H0) hs ha hb x []
 simpa using this
theorem giAt_get {k : Kn} {g : Nat} (hg : g < k.gifts.length) : (k.gifts.map giP)[g]? = some (giP (giAt k g)) := by
 refine map_at (f := giP) ?_
 unfold giAt
 rw [List.getD_eq_getElem?_getD, List.getElem?_eq_getElem hg]; rfl
theorem mealAt_get {k : Kn} {m : Nat} (hm : m < k.meals.length) : (k.meals.map intP)[m]? = some (intP (mealAt k m)) := by
 refine map_at (f := intP) ?_
 unfold mealAt
 rw [List.getD_eq_getElem?_getD, List.getElem?_eq_getElem hm]; rfl
structure EaSt where
 i : Nat
 R : List (List Int)
set_option maxHeartbeats 8000000 in
set_option maxRecDepth 8000 in
theorem Eaten_r (k : Kn) (V : KV k) (l : List Int) (hl : Feas k l) (M : Mem) : VC Try.prog 55 [kitV k, intsV l] M (fun r M' => M' = M ∧ ∃ v, r = vi (l.sum + v) ∧ MostE k (srvOf k l) l.length v) := by
 have vm1 := V.m1
 have vg1 := V.g1
 obtain ⟨nG, hnG⟩ : ∃ nG, nG = k.gifts.length := ⟨_, rfl⟩
 obtain ⟨nM, hnM⟩ : ∃ nM, nM = k.meals.length := ⟨_, rfl⟩
 obtain ⟨N, hN⟩ : ∃ N, N = nG + nM + 2 := ⟨_, rfl⟩
 have hN2 : 2 ≤ N := by omega
 have hNI : (nG : Int) + (nM : Int) + 2 = (N : Int) := by omega
 have hNI0 : -9223372036854775808 ≤ (nG : Int) + (nM : Int) ∧ (nG : Int) + (nM : Int) < 9223372036854775808 := by omega
 have k3 : -9223372036854775808 ≤ (N : Int) ∧ (N : Int) < 9223372036854775808 := by omega
 have q1 : (N * 24 ≤ 140737488355328) = True := eq_true (by omega)
 have q2 : (N ≤ 9223372036854775807) = True := eq_true (by omega)
 have q3 : (N * 8 ≤ 140737488355328) = True := eq_true (by omega)
 have hll : l.length ≤ 25 := by
  have := hl.len
  have := Nat.mul_le_mul vm1 vg1
  omega
 refine VC_own' T_ok (f := 55) (fn := Try.f55) (by kernel_rfl) rfl Try.ntmps55 (by rfl) (by rfl) ?_
 ((repeat refine Ws ?_);refine Wr ?_)
 simp (maxSteps := 1000000) only [VL,VM,↓VG,reduceIte,reduceCtorEq,zA,zB,zC,zD,zE,zF,zG,zH,zI,zJ]
 (repeat refine Ws ?_)
 refine W_drawP T_ok [] (by kernel_rfl) (by kernel_rfl) ?_
 generalize hi : mkPlan _ = infs
 cbv at hi
 subst hi
 simp (maxSteps := 1000000) only [VL,VM,↓VG,reduceIte,reduceCtorEq,zA,zB,zC,zD,zE,zF,zG,zH,zI,zJ, ← hnG, ← hnM]
 ((repeat refine Ws ?_);refine Wr ?_)
 simp (maxSteps := 1000000) only [VL,VM,↓VG,reduceIte,reduceCtorEq,zA,zB,zC,zD,zE,zF,zG,zH,zI,zJ, hNI0, hNI, k3, q1, q2, rep_flat]
 obtain ⟨H0, hH0⟩ : ∃ H0, H0 = M.H ++ [VObj.obj (kitC k)] := ⟨_, rfl⟩
 have hl0 : H0.length = M.H.length + 1 := by rw [hH0]; simp
 have hb0 : H0[M.H.length]? = some (VObj.obj (kitC k)) := by rw [hH0, hget0]; rfl
 have happ : ∀ L, M.H ++ (VObj.obj (kitC k) :: L) = H0 ++ L := fun L => by rw [hH0]; simp
 rw [happ, ← hl0]
 ((repeat refine Ws ?_);refine Wr ?_)
 simp (maxSteps := 1000000) only [VL,VM,↓VG,reduceIte,reduceCtorEq,zA,zB,zC,zD,zE,zF,zG,zH,zI,zJ]
 ((repeat refine Ws ?_);refine W_block ?_; (repeat refine Ws ?_)); refine W_loopS (fun s : FbSt => [(1, intsV l), (2, .ptr M.H.length 0), (5, vi nG), (6, vi nM), (7, .bf H0.length 0 N 1), (8, vi s.i)]) (fun s => ⟨H0 ++ (.obj (rowsB H0.length N s.i) :: List.replicate s.i (.obj (List.replicate N (vi 0)))), s.lg⟩) (fun s => N - s.i) (fun s => s.i ≤ N ∧ ∃ X, s.lg = M.lg ++ X ∧ ∀ e ∈ X, M.H.length ≤ e.1) ⟨0, M.lg⟩ ⟨Nat.zero_le _, [], by simp, by simp⟩ ⟨rfl, rfl, rfl, rfl, rfl, rfl, trivial⟩ (by simp [rowsB]) ?_
 rintro ⟨i, lg⟩ ⟨hi, X, rfl, hX⟩
 simp only at hi
 have k4 : -9223372036854775808 ≤ (i : Int) + 1 ∧ (i : Int) + 1 < 9223372036854775808 := by omega
 ((repeat refine Ws ?_);refine Wr ?_)
 rcases Nat.lt_or_ge i N with hlt | hge
 ·have k5 : ((i : Int) < (N : Int)) = True := eq_true (by omega)
  have hsp : List.take i (rowsB H0.length N i) ++ VV.bf (H0.length + (i + 1)) 0 N 1 :: List.drop (i + 1) (rowsB H0.length N i) = rowsB H0.length N (i + 1) := by
   rw [← rowsB_set hlt, List.set_eq_take_append_cons_drop, if_pos (by rw [rowsB_len (by omega)]; exact hlt), show H0.length + (i + 1) = H0.length + 1 + i by omega]
  have hle : (i + 1 ≤ (rowsB H0.length N i).length) = True := eq_true (by rw [rowsB_len (by omega)]; omega)
  have hltt : (i < N) = True := eq_true hlt
  simp (maxSteps := 1000000) only [VL,VM,↓VG,reduceIte,reduceCtorEq,zA,zB,zC,zD,zE,zF,zG,zH,zI,zJ, k5]
  ((repeat refine Ws ?_);refine Wt (by first|rfl|simp only [EV,zF,reduceIte]) ?_)
  ((repeat refine Ws ?_);refine W_skip ?_)
  simp (maxSteps := 1000000) only [VL,VM,↓VG,reduceIte,reduceCtorEq,zA,zB,zC,zD,zE,zF,zG,zH,zI,zJ]
  ((repeat refine Ws ?_);refine W_block ?_)
  ((repeat refine Ws ?_);refine Wr ?_)
  simp (maxSteps := 1000000) only [VL,VM,↓VG,reduceIte,reduceCtorEq,zA,zB,zC,zD,zE,zF,zG,zH,zI,zJ, q2, q3, rep_flat, hltt, List.length_replicate, hle, hsp]
  ((repeat refine Ws ?_);refine Wr ?_)
  simp (maxSteps := 1000000) only [VL,VM,↓VG,reduceIte,reduceCtorEq,zA,zB,zC,zD,zE,zF,zG,zH,zI,zJ, k4]
  obtain ⟨Y, y1, y2⟩ := addLg_Y H0.length [H0.length + (i + 1)] (M.lg ++ X)
  refine LoopK.mk ⟨i + 1, M.lg ++ (X ++ Y)⟩ (by simp only; omega) ⟨by simp only; omega, X ++ Y, rfl, fun e he => ?_⟩ ⟨rfl, rfl, rfl, rfl, rfl, rfl, trivial⟩ ?_
  ·rcases List.mem_append.1 he with he | he
   ·exact hX e he
   ·have := (y2 e he).1
    omega
  ·simp only
   rw [y1, List.append_assoc, List.replicate_succ']
 have k5 : ((i : Int) < (N : Int)) = False := eq_false (by omega)
 obtain rfl : N = i := by omega
 simp (maxSteps := 1000000) only [VL,VM,↓VG,reduceIte,reduceCtorEq,zA,zB,zC,zD,zE,zF,zG,zH,zI,zJ, k5]
 ((repeat refine Ws ?_);refine Wf (by first|rfl|simp only [EV,zF,reduceIte]) ?_)
 ((repeat refine Ws ?_);refine W_exit ?_)
 simp (maxSteps := 1000000) only [VL,VM,↓VG,reduceIte,reduceCtorEq,zA,zB,zC,zD,zE,zF,zG,zH,zI,zJ]
 have hFB : H0 ++ (VObj.obj (rowsB H0.length N N) :: List.replicate N (.obj (List.replicate N (vi 0)))) = FB H0 N (zeros2 N) := by
  rw [rowsB_all]
  unfold FB zeros2
  simp
 rw [hFB]
 clear hFB k5 hge k4 hi
 obtain ⟨lg, hlg⟩ : ∃ lg, lg = M.lg ++ X := ⟨_, rfl⟩
 rw [← hlg]
 have hbox := fun (R : List (List Int)) => FB_old (N := N) (R := R) [] hb0
 simp only [List.append_nil] at hbox
 ((repeat refine Ws ?_);refine Wr ?_)
 simp (maxSteps := 1000000) only [VL,VM,↓VG,reduceIte,reduceCtorEq,zA,zB,zC,zD,zE,zF,zG,zH,zI,zJ]
 ((repeat refine Ws ?_);refine W_block ?_; (repeat refine Ws ?_)); refine W_loopS (fun s : EaSt => [(1, intsV l), (2, .ptr M.H.length 0), (5, vi nG), (6, vi nM), (7, .bf H0.length 0 N 1), (9, vi s.i)]) (fun s => ⟨FB H0 N s.R, lg⟩) (fun s => nG - s.i) (fun s => s.i ≤ nG ∧ Sq N s.R ∧ ∀ a b, a < N → b < N → at2 s.R a b = eatF1 k s.i a b) ⟨0, zeros2 N⟩ ⟨Nat.zero_le _, zeros2_sq N, fun a b _ _ => by show at2 (zeros2 N) a b = eatF1 k 0 a b; rw [zeros2_at]; unfold eatF1; rw [if_neg (by omega)]⟩ ⟨rfl, rfl, rfl, rfl, rfl, rfl, trivial⟩ rfl ?_
 rintro ⟨i, R⟩ ⟨hi, hs, hF⟩
 simp only at hi hs hF
 have k4 : -9223372036854775808 ≤ (i : Int) + 1 ∧ (i : Int) + 1 < 9223372036854775808 := by omega
 ((repeat refine Ws ?_);refine Wr ?_)
 rcases Nat.lt_or_ge i nG with hlt | hge
 ·have k5 : ((i : Int) < (nG : Int)) = True := eq_true (by omega)
  have hx' := giAt_get (k := k) (g := i) (by omega)
  obtain ⟨p1, p2, p3, p4, p5, p6, p7, p8, p9⟩ := FB_pack0 (H0 := H0) hs (a := 0) (b := 1 + i) (by omega) (by omega) (giAt k i).portions
  simp only [Nat.add_zero, Nat.add_assoc] at p1 p2 p3 p4 p5 p6 p7 p8 p9
  have k7 : -9223372036854775808 ≤ ((1 + i : Nat) : Int) ∧ ((1 + i : Nat) : Int) < 9223372036854775808 := by omega
  have k8 : 1 + (i : Int) = ((1 + i : Nat) : Int) := by omega
  have hnx : ∀ a b, a < N → b < N → at2 (upd2 R 0 (1 + i) (giAt k i).portions) a b = eatF1 k (i + 1) a b := fun a b ha hb => by
   rw [at2_upd hs (by omega) (by omega), eatF1_succ, hF a b ha hb]
  have hs' := hs.upd (i := 0) (by omega) (1 + i) (giAt k i).portions
  generalize upd2 R 0 (1 + i) (giAt k i).portions = R' at hnx hs' p7
  simp (maxSteps := 1000000) only [VL,VM,↓VG,reduceIte,reduceCtorEq,zA,zB,zC,zD,zE,zF,zG,zH,zI,zJ, k5]
  ((repeat refine Ws ?_);refine Wt (by first|rfl|simp only [EV,zF,reduceIte]) ?_)
  ((repeat refine Ws ?_);refine W_skip ?_)
  simp (maxSteps := 1000000) only [VL,VM,↓VG,reduceIte,reduceCtorEq,zA,zB,zC,zD,zE,zF,zG,zH,zI,zJ]
  ((repeat refine Ws ?_);refine W_block ?_)
  (repeat refine Ws ?_)
  refine W_drawP T_ok [] (by kernel_rfl) (by kernel_rfl) ?_
  generalize hi : mkPlan _ = infs
  cbv at hi
  subst hi
  simp (maxSteps := 1000000) only [VL,VM,↓VG,reduceIte,reduceCtorEq,zA,zB,zC,zD,zE,zF,zG,zH,zI,zJ, hbox, hx', k7, k8, p1, p2, p3, p4, p5, p6, p7, p8, p9]
  ((repeat refine Ws ?_);refine Wr ?_)
  simp (maxSteps := 1000000) only [VL,VM,↓VG,reduceIte,reduceCtorEq,zA,zB,zC,zD,zE,zF,zG,zH,zI,zJ, k4]
  exact LoopK.mk ⟨i + 1, R'⟩ (by simp only; omega) ⟨by simp only; omega, hs', hnx⟩ ⟨rfl, rfl, rfl, rfl, rfl, rfl, trivial⟩ rfl
 have k5 : ((i : Int) < (nG : Int)) = False := eq_false (by omega)
 obtain rfl : nG = i := by omega
 simp (maxSteps := 1000000) only [VL,VM,↓VG,reduceIte,reduceCtorEq,zA,zB,zC,zD,zE,zF,zG,zH,zI,zJ, k5]
 ((repeat refine Ws ?_);refine Wf (by first|rfl|simp only [EV,zF,reduceIte]) ?_)
 ((repeat refine Ws ?_);refine W_exit ?_)
 simp (maxSteps := 1000000) only [VL,VM,↓VG,reduceIte,reduceCtorEq,zA,zB,zC,zD,zE,zF,zG,zH,zI,zJ]
 clear hge k5 k4 hi
 have kl : -9223372036854775808 ≤ ((N - 1 : Nat) : Int) ∧ ((N - 1 : Nat) : Int) < 9223372036854775808 := by omega
 have kl2 : (N : Int) - 1 = ((N - 1 : Nat) : Int) := by omega
 have kg : -9223372036854775808 ≤ ((1 + nG : Nat) : Int) ∧ ((1 + nG : Nat) : Int) < 9223372036854775808 := by omega
 have kg2 : 1 + (nG : Int) = ((1 + nG : Nat) : Int) := by omega
 ((repeat refine Ws ?_);refine Wr ?_)
 simp (maxSteps := 1000000) only [VL,VM,↓VG,reduceIte,reduceCtorEq,zA,zB,zC,zD,zE,zF,zG,zH,zI,zJ]
 ((repeat refine Ws ?_);refine W_block ?_; (repeat refine Ws ?_)); refine W_loopS (fun s : EaSt => [(1, intsV l), (2, .ptr M.H.length 0), (5, vi nG), (6, vi nM), (7, .bf H0.length 0 N 1), (10, vi s.i)]) (fun s => ⟨FB H0 N s.R, lg⟩) (fun s => nM - s.i) (fun s => s.i ≤ nM ∧ Sq N s.R ∧ ∀ a b, a < N → b < N → at2 s.R a b = eatF2 k s.i a b) ⟨0, R⟩ ⟨Nat.zero_le _, hs, fun a b ha hb => by simp only; rw [hF a b ha hb, eatF2_zero, hnG]⟩ ⟨rfl, rfl, rfl, rfl, rfl, rfl, trivial⟩ rfl ?_
 clear hs hF R
 rintro ⟨i, R⟩ ⟨hi, hs, hF⟩
 simp only at hi hs hF
 have k4 : -9223372036854775808 ≤ (i : Int) + 1 ∧ (i : Int) + 1 < 9223372036854775808 := by omega
 ((repeat refine Ws ?_);refine Wr ?_)
 rcases Nat.lt_or_ge i nM with hlt | hge
 ·have k5 : ((i : Int) < (nM : Int)) = True := eq_true (by omega)
  have hx' := mealAt_get (k := k) (m := i) (by omega)
  obtain ⟨p1, p2, p3, p4, p5, p6, p7, p8, p9⟩ := FB_pack0 (H0 := H0) hs (a := 1 + (nG + i)) (b := N - 1) (by omega) (by omega) (mealAt k i)
  have k7 : -9223372036854775808 ≤ ((1 + (nG + i) : Nat) : Int) ∧ ((1 + (nG + i) : Nat) : Int) < 9223372036854775808 := by omega
  have k8 : ((1 + nG : Nat) : Int) + (i : Int) = ((1 + (nG + i) : Nat) : Int) := by omega
  have hnx : ∀ a b, a < N → b < N → at2 (upd2 R (1 + (nG + i)) (N - 1) (mealAt k i)) a b = eatF2 k (i + 1) a b := fun a b ha hb => by
   rw [at2_upd hs (by omega) (by omega), eatF2_succ, hF a b ha hb, ← hnG, ← hnM, show N - 1 = nG + nM + 1 by omega, Nat.add_assoc 1 nG i]
  have hs' := hs.upd (i := 1 + (nG + i)) (by omega) (N - 1) (mealAt k i)
  generalize upd2 R (1 + (nG + i)) (N - 1) (mealAt k i) = R' at hnx hs' p7
  generalize hA : 1 + (nG + i) = A at *
  simp (maxSteps := 1000000) only [VL,VM,↓VG,reduceIte,reduceCtorEq,zA,zB,zC,zD,zE,zF,zG,zH,zI,zJ, k5]
  ((repeat refine Ws ?_);refine Wt (by first|rfl|simp only [EV,zF,reduceIte]) ?_)
  ((repeat refine Ws ?_);refine W_skip ?_)
  simp (maxSteps := 1000000) only [VL,VM,↓VG,reduceIte,reduceCtorEq,zA,zB,zC,zD,zE,zF,zG,zH,zI,zJ]
  ((repeat refine Ws ?_);refine W_block ?_)
  (repeat refine Ws ?_)
  refine W_drawP T_ok [] (by kernel_rfl) (by kernel_rfl) ?_
  generalize hi : mkPlan _ = infs
  cbv at hi
  subst hi
  simp (maxSteps := 1000000) only [VL,VM,↓VG,reduceIte,reduceCtorEq,zA,zB,zC,zD,zE,zF,zG,zH,zI,zJ, hbox, hx', kl, kl2, kg, kg2, k7, k8, p1, p2, p3, p4, p5, p6, p7, p8, p9]
  ((repeat refine Ws ?_);refine Wr ?_)
  simp (maxSteps := 1000000) only [VL,VM,↓VG,reduceIte,reduceCtorEq,zA,zB,zC,zD,zE,zF,zG,zH,zI,zJ, k4]
  exact LoopK.mk ⟨i + 1, R'⟩ (by simp only; omega) ⟨by simp only; omega, hs', hnx⟩ ⟨rfl, rfl, rfl, rfl, rfl, rfl, trivial⟩ rfl
 have k5 : ((i : Int) < (nM : Int)) = False := eq_false (by omega)
 obtain rfl : nM = i := by omega
 simp (maxSteps := 1000000) only [VL,VM,↓VG,reduceIte,reduceCtorEq,zA,zB,zC,zD,zE,zF,zG,zH,zI,zJ, k5]
 ((repeat refine Ws ?_);refine Wf (by first|rfl|simp only [EV,zF,reduceIte]) ?_)
 ((repeat refine Ws ?_);refine W_exit ?_)
 simp (maxSteps := 1000000) only [VL,VM,↓VG,reduceIte,reduceCtorEq,zA,zB,zC,zD,zE,zF,zG,zH,zI,zJ]
 clear hge k5 k4 hi
 obtain ⟨P, hP⟩ : ∃ P, P = nM * nG := ⟨_, rfl⟩
 have hP25 : P ≤ 25 := by rw [hP]; exact Nat.mul_le_mul (show nM ≤ 5 by omega) (show nG ≤ 5 by omega)
 have hPI : (nM : Int) * (nG : Int) = (P : Int) := by rw [hP]; push_cast; rfl
 have kP : -9223372036854775808 ≤ (P : Int) ∧ (P : Int) < 9223372036854775808 := by omega
 ((repeat refine Ws ?_);refine Wr ?_)
 simp (maxSteps := 1000000) only [VL,VM,↓VG,reduceIte,reduceCtorEq,zA,zB,zC,zD,zE,zF,zG,zH,zI,zJ]
 ((repeat refine Ws ?_);refine W_block ?_; (repeat refine Ws ?_)); refine W_loopS (fun s : EaSt => [(1, intsV l), (2, .ptr M.H.length 0), (5, vi nG), (6, vi nM), (7, .bf H0.length 0 N 1), (11, vi s.i)]) (fun s => ⟨FB H0 N s.R, lg⟩) (fun s => P - s.i) (fun s => s.i ≤ P ∧ Sq N s.R ∧ ∀ a b, a < N → b < N → at2 s.R a b = refF k l s.i a b) ⟨0, R⟩ ⟨Nat.zero_le _, hs, fun a b ha hb => by simp only; rw [hF a b ha hb, refF_zero, hnM]⟩ ⟨rfl, rfl, rfl, rfl, rfl, rfl, trivial⟩ rfl ?_
 clear hs hF R
 rintro ⟨i, R⟩ ⟨hi, hs, hF⟩
 simp only at hi hs hF
 have k4 : -9223372036854775808 ≤ (i : Int) + 1 ∧ (i : Int) + 1 < 9223372036854775808 := by omega
 ((repeat refine Ws ?_);refine Wr ?_)
 rcases Nat.lt_or_ge i P with hlt | hge
 rotate_left
 ·have k5 : ((i : Int) < (P : Int)) = False := eq_false (by omega)
  obtain rfl : P = i := by omega
  simp (maxSteps := 1000000) only [VL,VM,↓VG,reduceIte,reduceCtorEq,zA,zB,zC,zD,zE,zF,zG,zH,zI,zJ, hPI, kP, k5]
  ((repeat refine Ws ?_);refine Wf (by first|rfl|simp only [EV,zF,reduceIte]) ?_)
  ((repeat refine Ws ?_);refine W_exit ?_)
  simp (maxSteps := 1000000) only [VL,VM,↓VG,reduceIte,reduceCtorEq,zA,zB,zC,zD,zE,zF,zG,zH,zI,zJ]
  have hF' : ∀ a b, a < k.gifts.length + k.meals.length + 2 → b < k.gifts.length + k.meals.length + 2 → at2 R a b = refF k l (k.meals.length * k.gifts.length) a b := fun a b ha hb => by
   rw [hF a b (by omega) (by omega), hP, hnG, hnM]
  obtain ⟨hE, hnn⟩ := ref_E V hl (R := R) (by rw [← hnG, ← hnM, ← hN]; exact hs) hF'
  rw [← hnG, ← hnM, ← hN] at hE hnn
  generalize hv : mfv N (permT N R) = v at hE
  have hv0 : 0 ≤ v ∧ v ≤ 250000 := by
   obtain ⟨⟨T, hT, e⟩, _⟩ := hE
   have h0 := sumTo_bd (n := k.meals.length) (f := fun m => sumTo k.gifts.length fun g => T m g) (a := 0) (b := 50000) fun m hm => by
    have := sumTo_bd (n := k.gifts.length) (f := fun g => T m g) (a := 0) (b := 10000) fun g hg => by
     have h1 := hT.nn m g hm hg
     have h2 := (hT.le hm hg).1
     have h3 := (giAt_V V hg).p1
     have h4 := ((srvOf_srv (k := k) hl.bd).gone g k.meals.length).1
     omega
    omega
   have e2 : totT k.gifts.length k.meals.length T = v := e
   unfold totT at e2
   omega
  have hsb := sum_bd l hl.bd
  have k6 : -9223372036854775808 ≤ l.sum + v ∧ l.sum + v < 9223372036854775808 := by omega
  have hFl := FB_len (H0 := H0) hs
  have hRM : RM (FB H0 N R) N H0.length (H0.length + 1) := ⟨by have := FB_0 (H0 := H0) (N := N) (R := R) []; simpa using this, by rw [hFl]; omega, .inl (by omega)⟩
  have hfl := flow_r hRM hN2 (by omega) lg R hs (fun a b ha hb => (hnn a b ha hb).1) (fun a b ha hb => by have := (hnn a b ha hb).2; omega)
  have hfr := fun R' hl => FB_rows (H0 := H0) hs R' hl []
  simp only [List.append_nil] at hfr
  rw [hfr R hs.len, hv] at hfl
  ((repeat refine Ws ?_);refine Wr ?_)
  simp (maxSteps := 1000000) only [VL,VM,↓VG,reduceIte,reduceCtorEq,zA,zB,zC,zD,zE,zF,zG,zH,zI,zJ]
  apply call_eq (f := 80) (fn := Try.f80) (by kernel_rfl) (by rfl)
  ·exact sum_r l _ (by omega) (fun x hx => by have := hl.bd x hx; omega)
  simp (maxSteps := 1000000) only [VL,VM,↓VG,reduceIte,reduceCtorEq,zA,zB,zC,zD,zE,zF,zG,zH,zI,zJ]
  refine fn_call (f := 93) (fn := Try.f93) (by kernel_rfl) (by rfl) ?_
  refine hfl.mono ?_
  rintro _ _ ⟨R', rfl, rfl, hl'⟩
  rw [hfr R' hl']
  simp (maxSteps := 1000000) only [VL,VM,↓VG,reduceIte,reduceCtorEq,zA,zB,zC,zD,zE,zF,zG,zH,zI,zJ, k6]
  (repeat refine Ws ?_)
  refine W_ret ?_
  try simp only [thenQ, blockQ]
  subst hlg
  exact ⟨.inr rfl, rfl, ⟨X, rfl, hX⟩, M.H, VObj.obj (kitC k) :: VObj.obj ((List.range N).map fun j => .bf (H0.length + 1 + j) 0 N 1) :: R'.map rowO, by rw [FB, hH0]; simp, rfl, [vi (l.sum + v)], rfl, _, rfl, by simp [vtup, frz, refs], rfl, v, rfl, hE⟩
 have k5 : ((i : Int) < (P : Int)) = True := eq_true (by omega)
 have hG0 : 0 < nG := by
  rcases Nat.eq_zero_or_pos nG with e | e
  ·rw [e, Nat.mul_zero] at hP; omega
  ·exact e
 obtain ⟨m, hm⟩ : ∃ m, m = i / nG := ⟨_, rfl⟩
 obtain ⟨g, hg⟩ : ∃ g, g = i % nG := ⟨_, rfl⟩
 have hmI : (i : Int) / (nG : Int) = (m : Int) := by rw [hm]; push_cast; rfl
 have hgI : (i : Int) % (nG : Int) = (g : Int) := by rw [hg]; push_cast; rfl
 have hgl : g < nG := by rw [hg]; exact Nat.mod_lt _ hG0
 have hml : m < nM := by rw [hm]; exact Nat.div_lt_of_lt_mul (by rw [Nat.mul_comm]; omega)
 have himg : i = m * nG + g := by rw [hm, hg, Nat.mul_comm]; exact (Nat.div_add_mod i nG).symm
 have d0 : (0 ≤ (i : Int) ∧ (i : Int) < 9223372036854775808) := by omega
 have d1 : (1 ≤ (nG : Int)) = True := eq_true (by omega)
 have d2 : (0 : Int) < (nG : Int) := by omega
 have hrem := i_rem 3 (i : Int) (nG : Int) (by omega) d2
 rw [hgI] at hrem
 have hxg' := giAt_get (k := k) (g := g) (by omega)
 have k6 : -9223372036854775808 ≤ ((1 + g : Nat) : Int) ∧ ((1 + g : Nat) : Int) < 9223372036854775808 := by omega
 have k7 : 1 + (g : Int) = ((1 + g : Nat) : Int) := by omega
 have k8 : -9223372036854775808 ≤ ((1 + (nG + m) : Nat) : Int) ∧ ((1 + (nG + m) : Nat) : Int) < 9223372036854775808 := by omega
 have k9 : ((1 + nG : Nat) : Int) + (m : Int) = ((1 + (nG + m) : Nat) : Int) := by omega
 have hFA := hF 0 (1 + g) (by omega) (by omega)
 rw [refF_g k l i (by omega)] at hFA
 have hFB : at2 R (1 + (nG + m)) (N - 1) = mealAt k m - eatL l k.gifts.length m i := by
  rw [hF _ _ (by omega) (by omega), show 1 + (nG + m) = 1 + k.gifts.length + m by omega, show N - 1 = k.gifts.length + k.meals.length + 1 by omega, refF_m k l i (by omega)]
 have bA := goneL_bd hl.bd k.gifts.length g i
 have bB := eatL_bd hl.bd k.gifts.length m i
 have cA := giAt_V V (g := g) (by omega)
 have cA0 := cA.p0
 have cA1 := cA.p1
 have cB := mealAt_V V (m := m) (by omega)
 have hdb := getD_bd (Int.le_refl _) (by omega) hl.bd i
 have k11 : -9223372036854775808 ≤ at2 R 0 (1 + g) - l.getD i 0 ∧ at2 R 0 (1 + g) - l.getD i 0 < 9223372036854775808 := by omega
 have k12 : -9223372036854775808 ≤ at2 R (1 + (nG + m)) (N - 1) - l.getD i 0 ∧ at2 R (1 + (nG + m)) (N - 1) - l.getD i 0 < 9223372036854775808 := by omega
 clear hgI hm hg
 simp (maxSteps := 1000000) only [VL,VM,↓VG,reduceIte,reduceCtorEq,zA,zB,zC,zD,zE,zF,zG,zH,zI,zJ, hPI, kP, k5]
 ((repeat refine Ws ?_);refine Wt (by first|rfl|simp only [EV,zF,reduceIte]) ?_)
 ((repeat refine Ws ?_);refine W_skip ?_)
 simp (maxSteps := 1000000) only [VL,VM,↓VG,reduceIte,reduceCtorEq,zA,zB,zC,zD,zE,zF,zG,zH,zI,zJ]
 ((repeat refine Ws ?_);refine W_block ?_)
 (repeat refine Ws ?_)
 refine W_drawP T_ok [] (by kernel_rfl) (by kernel_rfl) ?_
 generalize hi : mkPlan _ = infs
 cbv at hi
 subst hi
 simp (maxSteps := 1000000) only [VL,VM,↓VG,reduceIte,reduceCtorEq,zA,zB,zC,zD,zE,zF,zG,zH,zI,zJ, d0, d1, hrem, hmI]
 ((repeat refine Ws ?_);refine Wr ?_)
 rcases Nat.lt_or_ge i l.length with hil | hil
 ·have k10 : ((i : Int) < (l.length : Int)) = True := eq_true (Int.ofNat_lt.2 hil)
  have hx : l[i]? = some (l.getD i 0) := by rw [List.getD_eq_getElem?_getD, List.getElem?_eq_getElem hil]; rfl
  have hx' := map_at (f := intP) hx
  have hgv := refF_given k l (i := i) (m := m) (g := g) (by omega) (by omega) (by rw [← hnG]; exact himg) hil
  obtain ⟨x0, hx0⟩ : ∃ x0, x0 = at2 R 0 (1 + g) - l.getD i 0 := ⟨_, rfl⟩
  obtain ⟨y0, hy0⟩ : ∃ y0, y0 = at2 R (1 + (nG + m)) (N - 1) - l.getD i 0 := ⟨_, rfl⟩
  have hs1 := hs.upd (i := 0) (by omega) (1 + g) x0
  have row1 : (upd2 R 0 (1 + g) x0).getD (1 + (nG + m)) [] = R.getD (1 + (nG + m)) [] := by
   unfold upd2
   rw [List.getD_eq_getElem?_getD, List.getElem?_set_ne (by omega), ← List.getD_eq_getElem?_getD]
  have hnx : ∀ a b, a < N → b < N → at2 (upd2 (upd2 R 0 (1 + g) x0) (1 + (nG + m)) (N - 1) y0) a b = refF k l (i + 1) a b := fun a b ha hb => by
   rw [at2_upd hs1 (by omega) (by omega), at2_upd hs (by omega) (by omega), hgv, hx0, hy0, show 1 + (nG + m) = 1 + k.gifts.length + m by omega, show N - 1 = k.gifts.length + k.meals.length + 1 by omega]
   by_cases q1 : 1 + k.gifts.length + m = a ∧ k.gifts.length + k.meals.length + 1 = b
   ·rw [if_pos q1, if_pos q1, ← q1.1, ← q1.2, hF _ _ (by omega) (by omega)]
   ·rw [if_neg q1, if_neg q1]
    by_cases q2 : 0 = a ∧ 1 + g = b
    ·rw [if_pos q2, if_pos q2, ← q2.1, ← q2.2, hF _ _ (by omega) (by omega)]
    ·rw [if_neg q2, if_neg q2, hF a b ha hb]
  obtain ⟨p1, p2, p3, p4, p5, p6, p7, p8, p9⟩ := FB_pack0 (H0 := H0) hs (a := 0) (b := 1 + g) (by omega) (by omega) x0
  obtain ⟨o1, o2, o3, o4, o5, o6, o7, o8, o9⟩ := FB_pack0 (H0 := H0) hs (a := 1 + (nG + m)) (b := N - 1) (by omega) (by omega) y0
  obtain ⟨r1, r2, r3, r4, r5, r6, r7, r8, r9⟩ := FB_pack0 (H0 := H0) hs1 (a := 1 + (nG + m)) (b := N - 1) (by omega) (by omega) y0
  rw [row1] at r3 r4 r5 r6 r7
  have hs2 := hs1.upd (i := 1 + (nG + m)) (by omega) (N - 1) y0
  simp only [Nat.add_zero, Nat.add_assoc] at p1 p2 p3 p4 p5 p6 p7 p8 p9 o1 o2 o3 o4 o5 o6 o7 o8 o9 r1 r2 r3 r4 r5 r6 r7 r8 r9
  have e1 : at2 R 0 (1 + g) - l.getD i 0 = x0 := hx0.symm
  have e2 : at2 R (1 + (nG + m)) (N - 1) - l.getD i 0 = y0 := hy0.symm
  rw [e1] at k11
  rw [e2] at k12
  generalize upd2 (upd2 R 0 (1 + g) x0) (1 + (nG + m)) (N - 1) y0 = R2 at hnx hs2 r7
  clear row1 hs1 hx0 hy0
  generalize upd2 R 0 (1 + g) x0 = R1 at p7 r1 r3 r4 r7
  simp (maxSteps := 1000000) only [VL,VM,↓VG,reduceIte,reduceCtorEq,zA,zB,zC,zD,zE,zF,zG,zH,zI,zJ, k10]
  ((repeat refine Ws ?_);refine Wt (by first|rfl|simp only [EV,zF,reduceIte]) ?_)
  (repeat refine Ws ?_)
  refine W_drawP T_ok [] (by kernel_rfl) (by kernel_rfl) ?_
  generalize hi : mkPlan _ = infs
  cbv at hi
  subst hi
  simp (maxSteps := 1000000) only [VL,VM,↓VG,reduceIte,reduceCtorEq,zA,zB,zC,zD,zE,zF,zG,zH,zI,zJ, hx', k6, k7, kg, kg2, k8, k9, kl, kl2, e1, e2, k11, k12, p1, p2, p3, p4, p5, p6, p7, p8, p9, o3, o4, o5, o6, o8, o9, r1, r2, r3, r7]
  ((repeat refine Ws ?_);refine W_exit ?_)
  simp (maxSteps := 1000000) only [VL,VM,↓VG,reduceIte,reduceCtorEq,zA,zB,zC,zD,zE,zF,zG,zH,zI,zJ]
  ((repeat refine Ws ?_);refine Wr ?_)
  simp (maxSteps := 1000000) only [VL,VM,↓VG,reduceIte,reduceCtorEq,zA,zB,zC,zD,zE,zF,zG,zH,zI,zJ, k4]
  exact LoopK.mk ⟨i + 1, R2⟩ (by simp only; omega) ⟨by simp only; omega, hs2, hnx⟩ ⟨rfl, rfl, rfl, rfl, rfl, rfl, trivial⟩ rfl
 have k10 : ((i : Int) < (l.length : Int)) = False := eq_false (fun q => absurd (Int.ofNat_lt.1 q) (Nat.not_lt.2 hil))
 have hop := refF_open k l (i := i) (m := m) (g := g) (by omega) (by omega) (by rw [← hnG]; exact himg) hil
 simp (maxSteps := 1000000) only [VL,VM,↓VG,reduceIte,reduceCtorEq,zA,zB,zC,zD,zE,zF,zG,zH,zI,zJ, k10]
 ((repeat refine Ws ?_);refine Wf (by first|rfl|simp only [EV,zF,reduceIte]) ?_)
 ((repeat refine Ws ?_);refine W_skip ?_)
 simp (maxSteps := 1000000) only [VL,VM,↓VG,reduceIte,reduceCtorEq,zA,zB,zC,zD,zE,zF,zG,zH,zI,zJ]
 (repeat refine Ws ?_)
 refine W_drawP T_ok [] (by kernel_rfl) (by kernel_rfl) ?_
 generalize hi : mkPlan _ = infs
 cbv at hi
 subst hi
 simp (maxSteps := 1000000) only [VL,VM,↓VG,reduceIte,reduceCtorEq,zA,zB,zC,zD,zE,zF,zG,zH,zI,zJ, hbox, hxg']
 apply call_d (f := 73) (fn := Try.f73) (by kernel_rfl) (by rfl)
 ·exact within_r _ _ _ _
 cases hin : inR (m : Int) (giAt k g).from_ (giAt k g).keeps
 ·have hin' : inP k m g = false := hin
  simp (maxSteps := 1000000) only [VL,VM,↓VG,reduceIte,reduceCtorEq,zA,zB,zC,zD,zE,zF,zG,zH,zI,zJ]
  ((repeat refine Ws ?_);refine Wf (by first|rfl|simp only [EV,zF,reduceIte]) ?_)
  ((repeat refine Ws ?_);refine W_skip ?_)
  simp (maxSteps := 1000000) only [VL,VM,↓VG,reduceIte,reduceCtorEq,zA,zB,zC,zD,zE,zF,zG,zH,zI,zJ]
  ((repeat refine Ws ?_);refine Wr ?_)
  simp (maxSteps := 1000000) only [VL,VM,↓VG,reduceIte,reduceCtorEq,zA,zB,zC,zD,zE,zF,zG,zH,zI,zJ, k4]
  refine LoopK.mk ⟨i + 1, R⟩ (by simp only; omega) ⟨by simp only; omega, hs, fun a b ha hb => ?_⟩ ⟨rfl, rfl, rfl, rfl, rfl, rfl, trivial⟩ rfl
  simp only
  rw [hop, if_neg (fun q => by rw [hin'] at q; simp at q), hF a b ha hb]
 ·have hin' : inP k m g = true := hin
  obtain ⟨p1, p2, p3, p4, p5, p6, p7, p8, p9⟩ := FB_pack0 (H0 := H0) hs (a := 1 + g) (b := 1 + (nG + m)) (by omega) (by omega) 10000
  have hnx : ∀ a b, a < N → b < N → at2 (upd2 R (1 + g) (1 + (nG + m)) 10000) a b = refF k l (i + 1) a b := fun a b ha hb => by
   rw [at2_upd hs (by omega) (by omega), hop, hF a b ha hb, hin']
   by_cases q : 1 + g = a ∧ 1 + (nG + m) = b
   ·rw [if_pos q, if_pos ⟨q.1, by have := q.2; omega, rfl⟩]
   ·rw [if_neg q, if_neg (fun q' => q ⟨q'.1, by have := q'.2.1; omega⟩)]
  have hs2 := hs.upd (i := 1 + g) (by omega) (1 + (nG + m)) 10000
  generalize upd2 R (1 + g) (1 + (nG + m)) 10000 = R2 at hnx hs2 p7
  have eA : 1 + g < N := by omega
  have eB : 1 + (nG + m) < N := by omega
  generalize hA : 1 + g = A at *
  generalize hB : 1 + (nG + m) = B at *
  simp (maxSteps := 1000000) only [VL,VM,↓VG,reduceIte,reduceCtorEq,zA,zB,zC,zD,zE,zF,zG,zH,zI,zJ]
  ((repeat refine Ws ?_);refine Wt (by first|rfl|simp only [EV,zF,reduceIte]) ?_)
  ((repeat refine Ws ?_);refine Wr ?_)
  simp (maxSteps := 1000000) only [VL,VM,↓VG,reduceIte,reduceCtorEq,zA,zB,zC,zD,zE,zF,zG,zH,zI,zJ, k6, k7, kg, kg2, k8, k9, p1, p2, p3, p4, p5, p6, p7, p8, p9]
  ((repeat refine Ws ?_);refine Wr ?_)
  simp (maxSteps := 1000000) only [VL,VM,↓VG,reduceIte,reduceCtorEq,zA,zB,zC,zD,zE,zF,zG,zH,zI,zJ, k4]
  exact LoopK.mk ⟨i + 1, R2⟩ (by simp only; omega) ⟨by simp only; omega, hs2, hnx⟩ ⟨rfl, rfl, rfl, rfl, rfl, rfl, trivial⟩ rfl
end Go.Proofs.Ytmagiabapakhcaa.Vm
