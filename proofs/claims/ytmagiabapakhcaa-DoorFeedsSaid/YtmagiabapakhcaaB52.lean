/- A part of the proofs about the chapter of the doors; it states no condition of its own. -/
import Derived.Test.YtmagiabapakhcaaB38
import Derived.Test.YtmagiabapakhcaaB51
set_option linter.unusedVariables false
set_option linter.unusedSimpArgs false
open Int renaming reduceLE → zA, reduceLT → zB, reduceToNat → zC, reduceNeg → zD
open Nat renaming reduceLT → zE, reduceEqDiff → zF, reduceAdd → zG, reduceSub → zH, reduceMul → zI, reduceLeDiff → zJ
/- The reference: Feed, on values: the walk. (Vm) -/
namespace Go.Proofs.Ytmagiabapakhcaa
theorem feedL_take {k : Kn} {p q : Nat} (h : p ≤ q) : (feedL k q).take p = feedL k p := by
 unfold feedL
 rw [← List.map_take, List.take_range, Nat.min_eq_left h]
theorem feedL_row {k : Kn} (V : KV k) {i : Nat} (hi : i < k.meals.length) : ((feedL k (k.meals.length * k.gifts.length)).take ((i + 1) * k.gifts.length)).drop (i * k.gifts.length) = (feedS k).getD i [] := by
 have hlen : i < (feedS k).length := by
  have := (feed_Z V).i.ok.srv.len
  show i < (feedTo k k.meals.length).1.length
  omega
 have hx : (feedS k)[i]? = some ((feedS k)[i]'hlen) := List.getElem?_eq_getElem hlen
 rw [feedL_take (Nat.mul_le_mul_right _ (by omega)), ← feed_flat V (i + 1) (by omega), List.take_add_one, hx, Option.toList_some, List.flatten_append, feed_flat V i (by omega), List.flatten_cons, List.flatten_nil, List.append_nil, List.drop_append_of_le_length (by rw [feedL_len]; exact Nat.le_refl _), List.drop_of_length_le (by rw [feedL_len]; exact Nat.le_refl _), List.nil_append, List.getD_eq_getElem?_getD, hx]
 rfl
end Go.Proofs.Ytmagiabapakhcaa
namespace Go.Proofs.Ytmagiabapakhcaa.Vm
open Go Go.Proofs
structure FnSt where
 n : Int
 junk : List VObj
set_option maxHeartbeats 4000000 in
set_option maxRecDepth 8000 in
theorem Feed_r (k : Kn) (M : Mem) (hl : k.meals.length ≤ 1000000) (hlg : k.gifts.length ≤ 1000000) : VC Try.prog 39 [kitV k] M (fun r M' => M' = M ∧ r = feedR k) := by
 refine VC_own' T_ok (f := 39) (fn := Try.f39) (by kernel_rfl) rfl Try.ntmps39 (by rfl) (by rfl) ?_
 ((repeat refine Ws ?_);refine Wr ?_)
 simp (maxSteps := 1000000) only [VL,VM,↓VG,reduceIte,reduceCtorEq,zA,zB,zC,zD,zE,zF,zG,zH,zI,zJ]
 ((repeat refine Ws ?_);refine Wr ?_)
 simp (maxSteps := 1000000) only [VL,VM,↓VG,reduceIte,reduceCtorEq,zA,zB,zC,zD,zE,zF,zG,zH,zI,zJ]
 apply call_eq (f := 35) (fn := Try.f35) (by kernel_rfl) (by rfl)
 ·exact kit_r k _ hl hlg
 simp (maxSteps := 1000000) only [VL,VM,↓VG,reduceIte,reduceCtorEq,zA,zB,zC,zD,zE,zF,zG,zH,zI,zJ]
 ((repeat refine Ws ?_);refine Wr ?_)
 by_cases a1 : kitErr k = 0
 rotate_left
 ·simp (maxSteps := 1000000) only [VL,VM,↓VG,reduceIte,reduceCtorEq,zA,zB,zC,zD,zE,zF,zG,zH,zI,zJ, a1]
  ((repeat refine Ws ?_);refine Wt (by first|rfl|simp only [EV,zF,reduceIte]) ?_)
  ((repeat refine Ws ?_);refine Wr ?_)
  simp (maxSteps := 1000000) only [VL,VM,↓VG,reduceIte,reduceCtorEq,zA,zB,zC,zD,zE,zF,zG,zH,zI,zJ]
  (repeat refine Ws ?_)
  refine W_ret ?_
  try simp only [thenQ, blockQ]
  refine own_ret (vs := [.sf 0 [], vi 0, vi (kitErr k)]) (r := .tup [.p (.sl 0 []), vi 0, vi (kitErr k)]) rfl (by simp [vtup, frz, frzL]) (by simp [refs, refsL]) ⟨rfl, ?_⟩
  unfold feedR
  rw [if_neg a1]
 have V := kitErr_ok.1 a1
 have hR : feedR k = .tup [servR k, vi (givenAll k - fedV k (srv0 k) (-1) 0), vi 0] := by unfold feedR; rw [if_pos a1]
 have vm1 := V.m1
 have vg1 := V.g1
 have hfb := fedV_bd V (srv0_ok k) (srv0_fits V) (-1) 0
 have hgb := given_bd V k.gifts.length
 rw [List.take_length] at hgb
 have hgb2 : 0 ≤ givenAll k ∧ givenAll k ≤ 50000 := by
  unfold givenAll
  omega
 have e0 := eaten0_r k V
 have hpair := fun i (hi : i < k.meals.length * k.gifts.length) => feed_pair V hi
 generalize hfv : fedV k (srv0 k) (-1) 0 = fv at hR hfb e0 hpair
 simp (maxSteps := 1000000) only [VL,VM,↓VG,reduceIte,reduceCtorEq,zA,zB,zC,zD,zE,zF,zG,zH,zI,zJ, a1]
 ((repeat refine Ws ?_);refine Wf (by first|rfl|simp only [EV,zF,reduceIte]) ?_)
 ((repeat refine Ws ?_);refine W_skip ?_)
 simp (maxSteps := 1000000) only [VL,VM,↓VG,reduceIte,reduceCtorEq,zA,zB,zC,zD,zE,zF,zG,zH,zI,zJ]
 ((repeat refine Ws ?_);refine Wr ?_)
 simp (maxSteps := 1000000) only [VL,VM,↓VG,reduceIte,reduceCtorEq,zA,zB,zC,zD,zE,zF,zG,zH,zI,zJ]
 ((repeat refine Ws ?_);refine Wr ?_)
 simp (maxSteps := 1000000) only [VL,VM,↓VG,reduceIte,reduceCtorEq,zA,zB,zC,zD,zE,zF,zG,zH,zI,zJ]
 ((repeat refine Ws ?_);refine W_block ?_; (repeat refine Ws ?_)); refine W_loopS (fun i : Nat => [(1, .ptr M.H.length 0), (6, vi ((k.gifts.take i).map Gi.portions).sum), (7, vi i)]) (fun _ => ⟨M.H ++ [.obj (kitC k)], M.lg⟩) (fun i => k.gifts.length - i) (fun i => i ≤ k.gifts.length) 0 (Nat.zero_le _) ⟨rfl, rfl, rfl, trivial⟩ rfl ?_
 intro i hi
 have k1 : -9223372036854775808 ≤ (i : Int) + 1 ∧ (i : Int) + 1 < 9223372036854775808 := by omega
 ((repeat refine Ws ?_);refine Wr ?_)
 rcases Nat.lt_or_ge i k.gifts.length with hlt | hge
 ·have k2 : ((i : Int) < (k.gifts.length : Int)) = True := eq_true (by omega)
  have hx' := giAt_get hlt
  have hs := given_next hlt
  have gb := given_bd V i
  have tl : ((k.gifts.take i).length : Int) ≤ 5 := by rw [List.length_take]; omega
  have gv := giAt_V V hlt
  have gp0 := gv.p0
  have gp1 := gv.p1
  have k3 : -9223372036854775808 ≤ ((k.gifts.take i).map Gi.portions).sum + (giAt k i).portions ∧ ((k.gifts.take i).map Gi.portions).sum + (giAt k i).portions < 9223372036854775808 := by omega
  generalize hsm : ((k.gifts.take i).map Gi.portions).sum = sm at hs k3 ⊢
  simp (maxSteps := 1000000) only [VL,VM,↓VG,reduceIte,reduceCtorEq,zA,zB,zC,zD,zE,zF,zG,zH,zI,zJ, k2]
  ((repeat refine Ws ?_);refine Wt (by first|rfl|simp only [EV,zF,reduceIte]) ?_)
  ((repeat refine Ws ?_);refine W_skip ?_)
  simp (maxSteps := 1000000) only [VL,VM,↓VG,reduceIte,reduceCtorEq,zA,zB,zC,zD,zE,zF,zG,zH,zI,zJ]
  ((repeat refine Ws ?_);refine W_block ?_)
  ((repeat refine Ws ?_);refine Wr ?_)
  simp (maxSteps := 1000000) only [VL,VM,↓VG,reduceIte,reduceCtorEq,zA,zB,zC,zD,zE,zF,zG,zH,zI,zJ, hx', k3]
  ((repeat refine Ws ?_);refine Wr ?_)
  simp (maxSteps := 1000000) only [VL,VM,↓VG,reduceIte,reduceCtorEq,zA,zB,zC,zD,zE,zF,zG,zH,zI,zJ, k1]
  refine LoopK.mk (i + 1) (by omega) (by omega) ⟨rfl, ?_, rfl, trivial⟩ rfl
  rw [hs]; rfl
 have k2 : ((i : Int) < (k.gifts.length : Int)) = False := eq_false (by omega)
 obtain rfl : i = k.gifts.length := by omega
 simp (maxSteps := 1000000) only [VL,VM,↓VG,reduceIte,reduceCtorEq,zA,zB,zC,zD,zE,zF,zG,zH,zI,zJ, k2]
 ((repeat refine Ws ?_);refine Wf (by first|rfl|simp only [EV,zF,reduceIte]) ?_)
 ((repeat refine Ws ?_);refine W_exit ?_)
 simp (maxSteps := 1000000) only [VL,VM,↓VG,reduceIte,reduceCtorEq,zA,zB,zC,zD,zE,zF,zG,zH,zI,zJ]
 have hga : ((k.gifts.take k.gifts.length).map Gi.portions).sum = givenAll k := by rw [List.take_length]; rfl
 rw [hga]
 clear k1 k2 hge hi hga
 ((repeat refine Ws ?_);refine Wr ?_)
 simp (maxSteps := 1000000) only [VL,VM,↓VG,reduceIte,reduceCtorEq,zA,zB,zC,zD,zE,zF,zG,zH,zI,zJ]
 apply call_eq (f := 55) (fn := Try.f55) (by kernel_rfl) (by rfl)
 ·exact e0 _
 simp (maxSteps := 1000000) only [VL,VM,↓VG,reduceIte,reduceCtorEq,zA,zB,zC,zD,zE,zF,zG,zH,zI,zJ]
 ((repeat refine Ws ?_);refine Wr ?_)
 simp (maxSteps := 1000000) only [VL,VM,↓VG,reduceIte,reduceCtorEq,zA,zB,zC,zD,zE,zF,zG,zH,zI,zJ]
 refine W_tok (t := 9) (k := 1) rfl ?_
 simp (maxSteps := 1000000) only [VL,VM,↓VG,reduceIte,reduceCtorEq,zA,zB,zC,zD,zE,zF,zG,zH,zI,zJ]
 ((repeat refine Ws ?_);refine Wr ?_)
 simp (maxSteps := 1000000) only [VL,VM,↓VG,reduceIte,reduceCtorEq,zA,zB,zC,zD,zE,zF,zG,zH,zI,zJ]
 obtain ⟨P, hP⟩ : ∃ P, P = k.meals.length * k.gifts.length := ⟨_, rfl⟩
 rw [← hP] at hpair
 have hP25 : P ≤ 25 := by rw [hP]; exact Nat.mul_le_mul vm1 vg1
 have hPI : (k.meals.length : Int) * (k.gifts.length : Int) = (P : Int) := by rw [hP]; push_cast; rfl
 have kP : -9223372036854775808 ≤ (P : Int) ∧ (P : Int) < 9223372036854775808 := by omega
 have gC : ∀ i junk, (M.H ++ (VObj.obj (kitC k) :: .clm i 1 :: junk))[M.H.length + 1]? = some (.clm i 1) := fun i junk => by rw [hget]; rfl
 have sC : ∀ i j junk, (M.H ++ (VObj.obj (kitC k) :: .clm i 1 :: junk)).set (M.H.length + 1) (.clm j 1) = M.H ++ (VObj.obj (kitC k) :: .clm j 1 :: junk) := fun i j junk => by rw [hset]; rfl
 ((repeat refine Ws ?_);refine W_block ?_; (repeat refine Ws ?_)); refine W_loopS (fun s : JSt => [(1, .ptr M.H.length 0), (6, vi (givenAll k)), (8, vi fv), (9, .so (M.H.length + 1) 1 ((feedL k s.i).map intP)), (10, vi s.i)]) (fun s => ⟨M.H ++ (VObj.obj (kitC k) :: .clm s.i 1 :: s.junk), M.lg⟩) (fun s => P - s.i) (fun s => s.i ≤ P) ⟨0, []⟩ (Nat.zero_le _) ⟨rfl, rfl, rfl, rfl, rfl, trivial⟩ rfl ?_
 rintro ⟨i, junk⟩ hi
 simp only at hi
 have k1 : -9223372036854775808 ≤ (i : Int) + 1 ∧ (i : Int) + 1 < 9223372036854775808 := by omega
 ((repeat refine Ws ?_);refine Wr ?_)
 rcases Nat.lt_or_ge i P with hlt | hge
 ·have k2 : ((i : Int) < (P : Int)) = True := eq_true (by omega)
  obtain ⟨t0, t1, t2, hp⟩ := hpair i hlt
  have hll := feedL_len (k := k) i
  have hrest := rest_r k V (feedL k i) (feedL_bd V i) (by rw [hll]; omega)
  rw [hll] at hrest
  have hnx := feedL_next (k := k) i
  have q1 : ((i + 1) * 8 ≤ 140737488355328) = True := eq_true (by omega)
  have q0 : (i * 8 ≤ 140737488355328) = True := eq_true (by omega)
  generalize restI k (feedL k i) (i / k.gifts.length) (i % k.gifts.length) = r0 at t1 t2 hp hrest
  generalize feedT k i = tt at t0 t1 hp hnx
  have hcall := fun n (h0 : 0 < n) (h1 : n ≤ r0) => eaten_most k V (feedL k i ++ [n]) (hp n h0 h1).1 (hp n h0 h1).2.1
  have hcmp := fun n (h0 : 0 < n) (h1 : n ≤ r0) => (hp n h0 h1).2.2
  clear hp hpair
  generalize hLL : feedL k i = L at hll hrest hnx hcall hcmp ⊢
  simp (maxSteps := 1000000) only [VL,VM,↓VG,reduceIte,reduceCtorEq,zA,zB,zC,zD,zE,zF,zG,zH,zI,zJ, hPI, kP, k2]
  ((repeat refine Ws ?_);refine Wt (by first|rfl|simp only [EV,zF,reduceIte]) ?_)
  ((repeat refine Ws ?_);refine W_skip ?_)
  simp (maxSteps := 1000000) only [VL,VM,↓VG,reduceIte,reduceCtorEq,zA,zB,zC,zD,zE,zF,zG,zH,zI,zJ]
  ((repeat refine Ws ?_);refine W_block ?_)
  ((repeat refine Ws ?_);refine Wr ?_)
  simp (maxSteps := 1000000) only [VL,VM,↓VG,reduceIte,reduceCtorEq,zA,zB,zC,zD,zE,zF,zG,zH,zI,zJ]
  apply call_eq (f := 86) (fn := Try.f86) (by kernel_rfl) (by rfl)
  ·exact hrest _
  simp (maxSteps := 1000000) only [VL,VM,↓VG,reduceIte,reduceCtorEq,zA,zB,zC,zD,zE,zF,zG,zH,zI,zJ]
  ((repeat refine Ws ?_);refine W_block ?_; (repeat refine Ws ?_)); refine W_loopS (fun s : FnSt => [(1, .ptr M.H.length 0), (6, vi (givenAll k)), (8, vi fv), (9, .so (M.H.length + 1) 1 (L.map intP)), (10, vi i), (11, vi s.n)]) (fun s => ⟨M.H ++ (VObj.obj (kitC k) :: .clm i 1 :: s.junk), M.lg⟩) (fun s => s.n.toNat) (fun s => tt ≤ s.n ∧ s.n ≤ r0) ⟨r0, junk⟩ ⟨t1, Int.le_refl _⟩ ⟨rfl, rfl, rfl, rfl, rfl, rfl, trivial⟩ rfl ?_
  rintro ⟨n, jk⟩ ⟨hn0, hn1⟩
  simp only at hn0 hn1
  have hm1 : (n - 1).toNat < n.toNat ∨ n ≤ 0 := by omega
  have kn : -9223372036854775808 ≤ n - 1 ∧ n - 1 < 9223372036854775808 := by omega
  by_cases hpos : 0 < n
  rotate_left
  ·have k3 : (0 < n) = False := eq_false hpos
   have hnt : n = tt := by omega
   (repeat refine Ws ?_)
   refine W_drawP T_ok [] (by kernel_rfl) (by kernel_rfl) ?_
   generalize hi : mkPlan _ = infs
   cbv at hi
   subst hi
   simp (maxSteps := 1000000) only [VL,VM,↓VG,reduceIte,reduceCtorEq,zA,zB,zC,zD,zE,zF,zG,zH,zI,zJ, k3]
   ((repeat refine Ws ?_);refine Wf (by first|rfl|simp only [EV,zF,reduceIte]) ?_)
   ((repeat refine Ws ?_);refine W_exit ?_)
   simp (maxSteps := 1000000) only [VL,VM,↓VG,reduceIte,reduceCtorEq,zA,zB,zC,zD,zE,zF,zG,zH,zI,zJ]
   ((repeat refine Ws ?_);refine Wr ?_)
   simp (maxSteps := 1000000) only [VL,VM,↓VG,reduceIte,reduceCtorEq,zA,zB,zC,zD,zE,zF,zG,zH,zI,zJ, hll, gC, sC, q1]
   ((repeat refine Ws ?_);refine Wr ?_)
   simp (maxSteps := 1000000) only [VL,VM,↓VG,reduceIte,reduceCtorEq,zA,zB,zC,zD,zE,zF,zG,zH,zI,zJ, k1]
   refine LoopK.mk ⟨i + 1, jk⟩ (by simp only; omega) (by simp only; omega) ⟨rfl, rfl, rfl, ?_, rfl, trivial⟩ rfl
   simp only
   rw [hnx, hnt]
   simp [get_cons]
  have k3 : (0 < n) = True := eq_true hpos
  have hc := hcall n hpos hn1
  obtain ⟨c1, c2⟩ := hcmp n hpos hn1
  have hap : L.map intP ++ [[PV.int .i64 n]] = (L ++ [n]).map intP := by simp
  have q3 : (L.length * 8 ≤ 140737488355328) = True := eq_true (by omega)
  have q4 : ((L.length + 1) * 8 ≤ 140737488355328) = True := eq_true (by omega)
  generalize (L ++ [n]).sum + eatW k (L ++ [n]) = ew at hc c1 c2
  by_cases hend : tt < n
  ·have k4 : (ew < fv) = True := eq_true (c1 hend)
   (repeat refine Ws ?_)
   refine W_drawP T_ok [] (by kernel_rfl) (by kernel_rfl) ?_
   generalize hi : mkPlan _ = infs
   cbv at hi
   subst hi
   simp (maxSteps := 1000000) only [VL,VM,↓VG,reduceIte,reduceCtorEq,zA,zB,zC,zD,zE,zF,zG,zH,zI,zJ, k3, q3, q4]
   rw [hap]
   apply call_d (f := 55) (fn := Try.f55) (by kernel_rfl) (by rfl)
   ·exact hc _
   simp (maxSteps := 1000000) only [VL,VM,↓VG,reduceIte,reduceCtorEq,zA,zB,zC,zD,zE,zF,zG,zH,zI,zJ, k4]
   ((repeat refine Ws ?_);refine Wt (by first|rfl|simp only [EV,zF,reduceIte]) ?_)
   ((repeat refine Ws ?_);refine W_skip ?_)
   simp (maxSteps := 1000000) only [VL,VM,↓VG,reduceIte,reduceCtorEq,zA,zB,zC,zD,zE,zF,zG,zH,zI,zJ]
   ((repeat refine Ws ?_);refine W_block ?_)
   ((repeat refine Ws ?_);refine Wr ?_)
   simp (maxSteps := 1000000) only [VL,VM,↓VG,reduceIte,reduceCtorEq,zA,zB,zC,zD,zE,zF,zG,zH,zI,zJ, kn]
   exact LoopK.mk ⟨n - 1, jk ++ [.clm (L.length + 1) 1]⟩ (by simp only; omega) ⟨by simp only; omega, by simp only; omega⟩ ⟨rfl, rfl, rfl, rfl, rfl, rfl, trivial⟩ rfl
  ·have hnt : n = tt := by omega
   have k4 : (ew < fv) = False := eq_false (by have := c2 hnt; omega)
   (repeat refine Ws ?_)
   refine W_drawP T_ok [] (by kernel_rfl) (by kernel_rfl) ?_
   generalize hi : mkPlan _ = infs
   cbv at hi
   subst hi
   simp (maxSteps := 1000000) only [VL,VM,↓VG,reduceIte,reduceCtorEq,zA,zB,zC,zD,zE,zF,zG,zH,zI,zJ, k3, q3, q4]
   rw [hap]
   apply call_d (f := 55) (fn := Try.f55) (by kernel_rfl) (by rfl)
   ·exact hc _
   simp (maxSteps := 1000000) only [VL,VM,↓VG,reduceIte,reduceCtorEq,zA,zB,zC,zD,zE,zF,zG,zH,zI,zJ, k4]
   ((repeat refine Ws ?_);refine Wf (by first|rfl|simp only [EV,zF,reduceIte]) ?_)
   ((repeat refine Ws ?_);refine W_exit ?_)
   simp (maxSteps := 1000000) only [VL,VM,↓VG,reduceIte,reduceCtorEq,zA,zB,zC,zD,zE,zF,zG,zH,zI,zJ]
   ((repeat refine Ws ?_);refine Wr ?_)
   simp (maxSteps := 1000000) only [VL,VM,↓VG,reduceIte,reduceCtorEq,zA,zB,zC,zD,zE,zF,zG,zH,zI,zJ, hll, gC, sC, q1]
   ((repeat refine Ws ?_);refine Wr ?_)
   simp (maxSteps := 1000000) only [VL,VM,↓VG,reduceIte,reduceCtorEq,zA,zB,zC,zD,zE,zF,zG,zH,zI,zJ, k1]
   refine LoopK.mk ⟨i + 1, jk ++ [.clm (i + 1) 1]⟩ (by simp only; omega) (by simp only; omega) ⟨rfl, rfl, rfl, ?_, rfl, trivial⟩ rfl
   simp only
   rw [hnx, hnt]
   simp [get_cons]
 have k2 : ((i : Int) < (P : Int)) = False := eq_false (by omega)
 obtain rfl : i = P := by omega
 simp (maxSteps := 1000000) only [VL,VM,↓VG,reduceIte,reduceCtorEq,zA,zB,zC,zD,zE,zF,zG,zH,zI,zJ, hPI, kP, k2]
 ((repeat refine Ws ?_);refine Wf (by first|rfl|simp only [EV,zF,reduceIte]) ?_)
 ((repeat refine Ws ?_);refine W_exit ?_)
 simp (maxSteps := 1000000) only [VL,VM,↓VG,reduceIte,reduceCtorEq,zA,zB,zC,zD,zE,zF,zG,zH,zI,zJ]
 have hll := feedL_len (k := k) i
 have hrow := fun j (hj : j < k.meals.length) => feedL_row V hj
 rw [← hP] at hrow
 have kf : -9223372036854775808 ≤ givenAll k - fv ∧ givenAll k - fv < 9223372036854775808 := by omega
 clear k1 k2 hge hi e0 hpair gC sC
 by_cases hn0 : k.meals.length = 0
 ·have hsv : servR k = .p (.sl 0 []) := by unfold servR; rw [if_pos hn0]
  have k2 : ((0 : Int) < (k.meals.length : Int)) = False := eq_false (by omega)
  ((repeat refine Ws ?_);refine Wr ?_)
  simp (maxSteps := 1000000) only [VL,VM,↓VG,reduceIte,reduceCtorEq,zA,zB,zC,zD,zE,zF,zG,zH,zI,zJ]
  ((repeat refine Ws ?_);refine Wr ?_)
  simp (maxSteps := 1000000) only [VL,VM,↓VG,reduceIte,reduceCtorEq,zA,zB,zC,zD,zE,zF,zG,zH,zI,zJ]
  ((repeat refine Ws ?_);refine W_block ?_; (repeat refine Ws ?_)); refine W_loopS (fun _ : Nat => [(1, .ptr M.H.length 0), (6, vi (givenAll k)), (8, vi fv), (12, .sf 0 []), (13, vi 0)]) (fun _ => ⟨M.H ++ (VObj.obj (kitC k) :: .clm i 1 :: junk), M.lg⟩) (fun _ => 0) (fun _ => True) 0 trivial ⟨rfl, rfl, rfl, rfl, rfl, trivial⟩ rfl ?_
  rintro _ _
  ((repeat refine Ws ?_);refine Wr ?_)
  simp (maxSteps := 1000000) only [VL,VM,↓VG,reduceIte,reduceCtorEq,zA,zB,zC,zD,zE,zF,zG,zH,zI,zJ, k2]
  ((repeat refine Ws ?_);refine Wf (by first|rfl|simp only [EV,zF,reduceIte]) ?_)
  ((repeat refine Ws ?_);refine W_exit ?_)
  simp (maxSteps := 1000000) only [VL,VM,↓VG,reduceIte,reduceCtorEq,zA,zB,zC,zD,zE,zF,zG,zH,zI,zJ]
  ((repeat refine Ws ?_);refine Wr ?_)
  simp (maxSteps := 1000000) only [VL,VM,↓VG,reduceIte,reduceCtorEq,zA,zB,zC,zD,zE,zF,zG,zH,zI,zJ, kf]
  (repeat refine Ws ?_)
  refine W_ret ?_
  try simp only [thenQ, blockQ]
  refine own_ret (vs := [.sf 0 [], vi (givenAll k - fv), vi 0]) (r := .tup [.p (.sl 0 []), vi (givenAll k - fv), vi 0]) rfl (by simp [vtup, frz, frzL]) (by simp [refs, refsL]) ⟨rfl, ?_⟩
  rw [hR, hsv]
 have hsv : servR k = tabV (feedS k) := by unfold servR; rw [if_neg hn0]; rfl
 have hSl : (feedS k).length = k.meals.length := (feed_Z V).i.ok.srv.len
 generalize feedL k i = L at hll hrow ⊢
 ((repeat refine Ws ?_);refine Wr ?_)
 simp (maxSteps := 1000000) only [VL,VM,↓VG,reduceIte,reduceCtorEq,zA,zB,zC,zD,zE,zF,zG,zH,zI,zJ]
 refine W_tok (t := 12) (k := 1) rfl ?_
 simp (maxSteps := 1000000) only [VL,VM,↓VG,reduceIte,reduceCtorEq,zA,zB,zC,zD,zE,zF,zG,zH,zI,zJ]
 ((repeat refine Ws ?_);refine Wr ?_)
 simp (maxSteps := 1000000) only [VL,VM,↓VG,reduceIte,reduceCtorEq,zA,zB,zC,zD,zE,zF,zG,zH,zI,zJ]
 generalize feedS k = S at hrow hsv hSl
 ((repeat refine Ws ?_);refine W_block ?_; (repeat refine Ws ?_)); refine W_loopS (fun j : Nat => [(1, .ptr M.H.length 0), (6, vi (givenAll k)), (8, vi fv), (9, .so (M.H.length + 1) 1 (L.map intP)), (12, .so (M.H.length + (junk.length + 2)) 1 ((S.take j).map rowP)), (13, vi j)]) (fun j => ⟨M.H ++ (VObj.obj (kitC k) :: .clm i 1 :: (junk ++ [.clm j 1])), M.lg⟩) (fun j => k.meals.length - j) (fun j => j ≤ k.meals.length) 0 (Nat.zero_le _) ⟨rfl, rfl, rfl, rfl, ?_, rfl, trivial⟩ ?_ ?_
 ·simp [get_cons]
 ·rfl
 intro j hj
 have k1 : -9223372036854775808 ≤ (j : Int) + 1 ∧ (j : Int) + 1 < 9223372036854775808 := by omega
 ((repeat refine Ws ?_);refine Wr ?_)
 rcases Nat.lt_or_ge j k.meals.length with hlt | hge
 rotate_left
 ·have k2 : ((j : Int) < (k.meals.length : Int)) = False := eq_false (by omega)
  obtain rfl : j = k.meals.length := by omega
  simp (maxSteps := 1000000) only [VL,VM,↓VG,reduceIte,reduceCtorEq,zA,zB,zC,zD,zE,zF,zG,zH,zI,zJ, k2]
  ((repeat refine Ws ?_);refine Wf (by first|rfl|simp only [EV,zF,reduceIte]) ?_)
  ((repeat refine Ws ?_);refine W_exit ?_)
  simp (maxSteps := 1000000) only [VL,VM,↓VG,reduceIte,reduceCtorEq,zA,zB,zC,zD,zE,zF,zG,zH,zI,zJ]
  rw [show S.take k.meals.length = S by rw [← hSl, List.take_length]]
  ((repeat refine Ws ?_);refine Wr ?_)
  simp (maxSteps := 1000000) only [VL,VM,↓VG,reduceIte,reduceCtorEq,zA,zB,zC,zD,zE,zF,zG,zH,zI,zJ, kf]
  (repeat refine Ws ?_)
  refine W_ret ?_
  try simp only [thenQ, blockQ]
  refine own_ret (vs := [.so (M.H.length + (junk.length + 2)) 1 (S.map rowP), vi (givenAll k - fv), vi 0]) (r := .tup [tabV S, vi (givenAll k - fv), vi 0]) rfl (by simp [vtup, frz, frzL, nat_ble]) (by simp [refs, refsL]) ⟨rfl, ?_⟩
  rw [hR, hsv]
 have k2 : ((j : Int) < (k.meals.length : Int)) = True := eq_true (by omega)
 have hx : S[j]? = some (S.getD j []) := by rw [List.getD_eq_getElem?_getD, List.getElem?_eq_getElem (by omega)]; rfl
 have htk : (S.take (j + 1)).map rowP = (S.take j).map rowP ++ [rowP (S.getD j [])] := by rw [List.take_add_one, hx]; simp
 have hrj := hrow j hlt
 obtain ⟨p0, hp0⟩ : ∃ p0, p0 = j * k.gifts.length := ⟨_, rfl⟩
 obtain ⟨p1, hp1⟩ : ∃ p1, p1 = (j + 1) * k.gifts.length := ⟨_, rfl⟩
 have hp01 : p1 = p0 + k.gifts.length := by rw [hp1, hp0, Nat.add_mul, Nat.one_mul]
 have hp1i : p1 ≤ i := by rw [hp1, hP]; exact Nat.mul_le_mul_right _ (by omega)
 have r0 : (j : Int) * (k.gifts.length : Int) = (p0 : Int) := by rw [hp0]; push_cast; rfl
 have r1 : ((j : Int) + 1) * (k.gifts.length : Int) = (p1 : Int) := by rw [hp1]; push_cast; rfl
 have b0 : -9223372036854775808 ≤ (p0 : Int) ∧ (p0 : Int) < 9223372036854775808 := by omega
 have b1 : -9223372036854775808 ≤ (p1 : Int) ∧ (p1 : Int) < 9223372036854775808 := by omega
 rw [← hp0, ← hp1] at hrj
 have l1 : (p1 ≤ i) = True := eq_true hp1i
 have l2 : (p0 ≤ p1) = True := eq_true (by omega)
 have hStk : (S.take j).length = j := by rw [List.length_take]; omega
 have q1 : ((j + 1) * 24 ≤ 140737488355328) = True := eq_true (by omega)
 generalize S.getD j [] = row at htk hrj
 have gJ : ∀ o : VObj, (M.H ++ (VObj.obj (kitC k) :: .clm i 1 :: (junk ++ [o])))[M.H.length + (junk.length + 2)]? = some o := fun o => by
  rw [hget, List.getElem?_cons_succ, List.getElem?_cons_succ, hget0]; rfl
 have sJ : ∀ o o' : VObj, (M.H ++ (VObj.obj (kitC k) :: .clm i 1 :: (junk ++ [o]))).set (M.H.length + (junk.length + 2)) o' = M.H ++ (VObj.obj (kitC k) :: .clm i 1 :: (junk ++ [o'])) := fun o o' => by
  rw [hset, List.set_cons_succ, List.set_cons_succ, hset0]; rfl
 simp (maxSteps := 1000000) only [VL,VM,↓VG,reduceIte,reduceCtorEq,zA,zB,zC,zD,zE,zF,zG,zH,zI,zJ, k2]
 ((repeat refine Ws ?_);refine Wt (by first|rfl|simp only [EV,zF,reduceIte]) ?_)
 ((repeat refine Ws ?_);refine W_skip ?_)
 simp (maxSteps := 1000000) only [VL,VM,↓VG,reduceIte,reduceCtorEq,zA,zB,zC,zD,zE,zF,zG,zH,zI,zJ]
 ((repeat refine Ws ?_);refine W_block ?_)
 ((repeat refine Ws ?_);refine Wr ?_)
 simp (maxSteps := 1000000) only [VL,VM,↓VG,reduceIte,reduceCtorEq,zA,zB,zC,zD,zE,zF,zG,zH,zI,zJ, hll, r0, r1, b0, b1, k1, l1, l2, hrj, gJ, sJ, hStk, q1]
 ((repeat refine Ws ?_);refine Wr ?_)
 simp (maxSteps := 1000000) only [VL,VM,↓VG,reduceIte,reduceCtorEq,zA,zB,zC,zD,zE,zF,zG,zH,zI,zJ, k1]
 refine LoopK.mk (j + 1) (by omega) (by omega) ⟨rfl, rfl, rfl, rfl, ?_, rfl, trivial⟩ rfl
 rw [htk]; rfl
end Go.Proofs.Ytmagiabapakhcaa.Vm
