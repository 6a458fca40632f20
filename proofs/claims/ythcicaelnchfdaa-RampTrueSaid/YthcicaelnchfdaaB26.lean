/- A part of the proofs about the chapter of the ramps; it states no condition of its own. -/
import Derived.Test.YthcicaelnchfdaaB17
import Derived.Test.YthcicaelnchfdaaB18
import Derived.Test.YthcicaelnchfdaaB23
import Derived.Test.YthcicaelnchfdaaB25
set_option linter.unusedVariables false
set_option linter.unusedSimpArgs false
open Int renaming reduceLE → zA, reduceLT → zB, reduceToNat → zC, reduceNeg → zD
open Nat renaming reduceLT → zE, reduceEqDiff → zF, reduceAdd → zG, reduceSub → zH, reduceMul → zI, reduceLeDiff → zJ
/- When sets of carts can be away, on values. (Vm) -/
namespace Go.Proofs.Ythcicaelnchfdaa.Vm
open Go Go.Proofs
def allTo (i : Nat) : List Int := (List.range i).foldl (fun l s => if 0 < s then l.set s never else l) (List.replicate 128 0)
theorem allTo_succ (i : Nat) : allTo (i + 1) = if 0 < i then (allTo i).set i never else allTo i := by
 unfold allTo
 rw [List.range_succ, List.foldl_append]
 rfl
theorem allTo_len : ∀ i, (allTo i).length = 128
 | 0 => by simp [allTo]
 | i + 1 => by
  rw [allTo_succ]
  split
  ·rw [List.length_set]; exact allTo_len i
  ·exact allTo_len i
set_option maxRecDepth 100000 in
theorem allTo_all : allTo 128 = 0 :: List.replicate 127 never := by decide +kernel
structure SoS where
 r : Nat
 p3 : Nat
 J : List VObj
set_option maxRecDepth 4000 in
set_option maxHeartbeats 4000000 in
theorem soonest_v {R : Ry} (hR : RyOk R) (M : Mem) : VC Try.prog 61 [ryV R] M (fun x M' => M' = M ∧ x = .ip ((soonestL R).map (PV.int .i64))) := by
 obtain ⟨n, hn⟩ : ∃ n, n = R.y.carts.length := ⟨_, rfl⟩
 have hm7 := hR.y.m1
 have hn3 := hR.y.n1
 rw [← hn] at hm7
 have h2n : 2 ^ n ≤ 128 := Nat.pow_le_pow_right (n := 2) (by decide) hm7
 have hle := ry_le hR
 refine VC_ipq (f := 61) (fn := Try.f61) (by kernel_rfl) rfl Try.ntmps61 (by rfl) (by rfl) ?_
 ((repeat refine Ws ?_);refine W_regionE T_ok ?_; intro Kn hKn)
 ((simp (maxSteps := 1000000) only [VL,VM,↓VG,reduceIte,reduceCtorEq,zA,zB,zC,zD,zE,zF,zG,zH,zI,zJ, ry_cells]); rw [hKn];clear hKn Kn;simp only [QV,reduceIte,reduceCtorEq,Nat.reduceEqDiff])
 ((repeat refine Ws ?_);refine W_regionE T_ok ?_; intro Kn hKn)
 ((simp (maxSteps := 1000000) only [VL,VM,↓VG,reduceIte,reduceCtorEq,zA,zB,zC,zD,zE,zF,zG,zH,zI,zJ, zeros_vi, all_vi]); rw [hKn];clear hKn Kn;simp only [QV,reduceIte,reduceCtorEq,Nat.reduceEqDiff])
 ((repeat refine Ws ?_);refine W_regionE T_ok ?_; intro Kn hKn)
 ((simp (maxSteps := 1000000) only [VL,VM,↓VG,reduceIte,reduceCtorEq,zA,zB,zC,zD,zE,zF,zG,zH,zI,zJ]); rw [hKn];clear hKn Kn;simp only [QV,reduceIte,reduceCtorEq,Nat.reduceEqDiff])
 ((repeat refine Ws ?_);refine W_block ?_; (repeat refine Ws ?_)); refine W_loopS (fun i : Nat => [(1, .ptr M.H.length 0), (3, .ptr (M.H.length + 1) 0), (12, vi i)]) (fun i => ⟨M.H ++ [.obj (ryC R), .obj ((allTo i).map vi)], M.lg⟩) (fun i => 128 - i) (fun i => i ≤ 128) 0 (by decide) ⟨rfl, rfl, rfl, trivial⟩ rfl ?_
 ·intro i hi
  have k1 : -9223372036854775808 ≤ (i : Int) + 1 ∧ (i : Int) + 1 < 9223372036854775808 := by omega
  have hal := allTo_len i
  have has := allTo_succ i
  ((repeat refine Ws ?_);refine W_regionE T_ok ?_; intro Kn hKn)
  rcases Nat.lt_or_ge i 128 with hlt | hge
  ·have k2 : ((i : Int) < 128) = True := eq_true (by omega)
   have hi1 : (i + 1 ≤ (allTo i).length) = True := eq_true (by omega)
   ((simp (maxSteps := 1000000) only [VL,VM,↓VG,reduceIte,reduceCtorEq,zA,zB,zC,zD,zE,zF,zG,zH,zI,zJ, k2]); rw [hKn];clear hKn Kn;simp only [QV,reduceIte,reduceCtorEq,Nat.reduceEqDiff])
   ((repeat refine Ws ?_);refine Wt (by first|rfl|simp only [EV,zF,reduceIte]) ?_)
   (((repeat refine Ws ?_);refine W_skip ?_); simp only [QV,reduceIte,reduceCtorEq,Nat.reduceEqDiff])
   ((repeat refine Ws ?_);refine W_block ?_)
   ((repeat refine Ws ?_);refine W_regionE T_ok ?_; intro Kn hKn)
   ((simp (maxSteps := 1000000) only [VL,VM,↓VG,reduceIte,reduceCtorEq,zA,zB,zC,zD,zE,zF,zG,zH,zI,zJ]); rw [hKn];clear hKn Kn;simp only [QV,reduceIte,reduceCtorEq,Nat.reduceEqDiff])
   ((repeat refine Ws ?_);refine W_regionE T_ok ?_; intro Kn hKn)
   by_cases h0 : 0 < i
   ·have h0' : ((0 : Int) < (i : Int)) = True := eq_true (by omega)
    rw [if_pos h0] at has
    ((simp (maxSteps := 1000000) only [VL,VM,↓VG,reduceIte,reduceCtorEq,zA,zB,zC,zD,zE,zF,zG,zH,zI,zJ, h0']); rw [hKn];clear hKn Kn;simp only [QV,reduceIte,reduceCtorEq,Nat.reduceEqDiff])
    ((repeat refine Ws ?_);refine Wt (by first|rfl|simp only [EV,zF,reduceIte]) ?_)
    ((repeat refine Ws ?_);refine W_regionE T_ok ?_; intro Kn hKn)
    ((simp (maxSteps := 1000000) only [VL,VM,↓VG,reduceIte,reduceCtorEq,zA,zB,zC,zD,zE,zF,zG,zH,zI,zJ, hlt, hi1]); rw [hKn];clear hKn Kn;simp only [QV,reduceIte,reduceCtorEq,Nat.reduceEqDiff])
    rw [splice_vi (by omega)]
    ((repeat refine Ws ?_);refine W_regionE T_ok ?_; intro Kn hKn)
    ((simp (maxSteps := 1000000) only [VL,VM,↓VG,reduceIte,reduceCtorEq,zA,zB,zC,zD,zE,zF,zG,zH,zI,zJ, k1]); rw [hKn];clear hKn Kn;simp only [QV,reduceIte,reduceCtorEq,Nat.reduceEqDiff])
    refine LoopK.mk (i + 1) (by omega) (by omega) ⟨rfl, rfl, rfl, trivial⟩ ?_
    rw [has]; rfl
   ·have h0' : ((0 : Int) < (i : Int)) = False := eq_false (by omega)
    rw [if_neg h0] at has
    ((simp (maxSteps := 1000000) only [VL,VM,↓VG,reduceIte,reduceCtorEq,zA,zB,zC,zD,zE,zF,zG,zH,zI,zJ, h0']); rw [hKn];clear hKn Kn;simp only [QV,reduceIte,reduceCtorEq,Nat.reduceEqDiff])
    ((repeat refine Ws ?_);refine Wf (by first|rfl|simp only [EV,zF,reduceIte]) ?_)
    (((repeat refine Ws ?_);refine W_skip ?_); simp only [QV,reduceIte,reduceCtorEq,Nat.reduceEqDiff])
    ((repeat refine Ws ?_);refine W_regionE T_ok ?_; intro Kn hKn)
    ((simp (maxSteps := 1000000) only [VL,VM,↓VG,reduceIte,reduceCtorEq,zA,zB,zC,zD,zE,zF,zG,zH,zI,zJ, k1]); rw [hKn];clear hKn Kn;simp only [QV,reduceIte,reduceCtorEq,Nat.reduceEqDiff])
    refine LoopK.mk (i + 1) (by omega) (by omega) ⟨rfl, rfl, rfl, trivial⟩ ?_
    rw [has]
  ·have k2 : ((i : Int) < 128) = False := eq_false (by omega)
   obtain rfl : i = 128 := by omega
   rw [allTo_all]
   ((simp (maxSteps := 1000000) only [VL,VM,↓VG,reduceIte,reduceCtorEq,zA,zB,zC,zD,zE,zF,zG,zH,zI,zJ, k2]); rw [hKn];clear hKn Kn;simp only [QV,reduceIte,reduceCtorEq,Nat.reduceEqDiff])
   ((repeat refine Ws ?_);refine Wf (by first|rfl|simp only [EV,zF,reduceIte]) ?_)
   (((repeat refine Ws ?_);refine W_exit ?_); simp only [QV,reduceIte,reduceCtorEq,Nat.reduceEqDiff])
   ((repeat refine Ws ?_);refine W_regionE T_ok ?_; intro Kn hKn)
   ((simp (maxSteps := 1000000) only [VL,VM,↓VG,reduceIte,reduceCtorEq,zA,zB,zC,zD,zE,zF,zG,zH,zI,zJ, ry_0]); rw [hKn];clear hKn Kn;simp only [QV,reduceIte,reduceCtorEq,Nat.reduceEqDiff])
   ((repeat refine Ws ?_);refine W_block ?_; (repeat refine Ws ?_)); refine W_loopS (fun q : SoS => [(1, .ptr M.H.length 0), (3, .ptr q.p3 0), (25, vi R.y.ramps.length), (26, vi q.r)]) (fun q => ⟨M.H ++ .obj (ryC R) :: q.J, M.lg⟩) (fun q => R.y.ramps.length - q.r) (fun q => q.r ≤ R.y.ramps.length ∧ M.H.length ≤ q.p3 ∧ (M.H ++ .obj (ryC R) :: q.J)[q.p3]? = some (.obj ((allL R q.r).map vi))) ⟨0, M.H.length + 1, [.obj ((allL R 0).map vi)]⟩ ⟨Nat.zero_le _, by simp, by rw [hget]; rfl⟩ ⟨rfl, rfl, rfl, rfl, trivial⟩ rfl ?_
   ·rintro ⟨r, p3, J⟩ ⟨hr, hp3, hg3⟩
    simp only at hr hp3 hg3
    have j1 : -9223372036854775808 ≤ (r : Int) + 1 ∧ (r : Int) + 1 < 9223372036854775808 := by omega
    ((repeat refine Ws ?_);refine W_regionE T_ok ?_; intro Kn hKn)
    rcases Nat.lt_or_ge r R.y.ramps.length with hlt2 | hge2
    ·have j2 : ((r : Int) < (R.y.ramps.length : Int)) = True := eq_true (by omega)
     have hr3 : r < 3 := by omega
     have hmust := (hR.w r).1
     have hmu2 : mustAt R r < 256 := by omega
     have hdl := doneL_len R r
     have hall := allL_len R r
     obtain ⟨H1, hH1⟩ : ∃ H1, H1 = M.H ++ VObj.obj (ryC R) :: J := ⟨_, rfl⟩
     have g1 : ∀ X, (H1 ++ X)[M.H.length]? = some (.obj (ryC R)) := fun X => by rw [hH1]; simp
     have g3 : ∀ X, (H1 ++ X)[p3]? = some (.obj ((allL R r).map vi)) := fun X => by rw [hH1]; exact app_get hg3 X
     have g10 : H1[M.H.length]? = some (.obj (ryC R)) := by have := g1 []; simpa using this
     rw [← hH1]
     ((simp (maxSteps := 1000000) only [VL,VM,↓VG,reduceIte,reduceCtorEq,zA,zB,zC,zD,zE,zF,zG,zH,zI,zJ, j2]); rw [hKn];clear hKn Kn;simp only [QV,reduceIte,reduceCtorEq,Nat.reduceEqDiff])
     ((repeat refine Ws ?_);refine Wt (by first|rfl|simp only [EV,zF,reduceIte]) ?_)
     (((repeat refine Ws ?_);refine W_skip ?_); simp only [QV,reduceIte,reduceCtorEq,Nat.reduceEqDiff])
     ((repeat refine Ws ?_);refine W_block ?_)
     ((repeat refine Ws ?_);refine W_regionE T_ok ?_; intro Kn hKn)
     ((simp (maxSteps := 1000000) only [VL,VM,↓VG,reduceIte,reduceCtorEq,zA,zB,zC,zD,zE,zF,zG,zH,zI,zJ]); rw [hKn];clear hKn Kn;simp only [QV,reduceIte,reduceCtorEq,Nat.reduceEqDiff])
     ((repeat refine Ws ?_);refine W_regionE T_ok ?_; intro Kn hKn)
     simp (maxSteps := 1000000) only [VL,VM,↓VG,reduceIte,reduceCtorEq,zA,zB,zC,zD,zE,zF,zG,zH,zI,zJ, g10, hle, ry_take hR, ry_strip]
     apply call_eq (f := 89) (fn := Try.f89) (by kernel_rfl) (by rfl)
     ·exact done_v hR r _ hlt2
     ((simp (maxSteps := 1000000) only [VL,VM,↓VG,reduceIte,reduceCtorEq,zA,zB,zC,zD,zE,zF,zG,zH,zI,zJ]); rw [hKn];clear hKn Kn;simp only [QV,reduceIte,reduceCtorEq,Nat.reduceEqDiff])
     ((repeat refine Ws ?_);refine W_regionE T_ok ?_; intro Kn hKn)
     ((simp (maxSteps := 1000000) only [VL,VM,↓VG,reduceIte,reduceCtorEq,zA,zB,zC,zD,zE,zF,zG,zH,zI,zJ, zeros_vi, all_vi]); rw [hKn];clear hKn Kn;simp only [QV,reduceIte,reduceCtorEq,Nat.reduceEqDiff])
     ((repeat refine Ws ?_);refine W_regionE T_ok ?_; intro Kn hKn)
     ((simp (maxSteps := 1000000) only [VL,VM,↓VG,reduceIte,reduceCtorEq,zA,zB,zC,zD,zE,zF,zG,zH,zI,zJ, g1, ry_1, ← hn, i_shl, hm7]); rw [hKn];clear hKn Kn;simp only [QV,reduceIte,reduceCtorEq,Nat.reduceEqDiff])
     ((repeat refine Ws ?_);refine W_block ?_; (repeat refine Ws ?_)); refine W_loopS (fun s : Nat => [(1, .ptr M.H.length 0), (3, .ptr p3 0), (5, vi r), (6, .ip ((doneL R r).map (PV.int .i64))), (7, .ptr H1.length 0), (25, vi R.y.ramps.length), (26, vi r), (38, vi ((2 ^ n : Nat) : Int)), (39, vi s)]) (fun s => ⟨H1 ++ [.obj ((nextTo R r (doneL R r) (allL R r) s).map vi)], M.lg⟩) (fun s => 2 ^ n - s) (fun s => s ≤ 2 ^ n) 0 (Nat.zero_le _) ⟨rfl, rfl, rfl, rfl, rfl, rfl, rfl, rfl, rfl, trivial⟩ rfl ?_
     ·intro s hs
      have l1 : -9223372036854775808 ≤ (s : Int) + 1 ∧ (s : Int) + 1 < 9223372036854775808 := by omega
      have hnl := nextTo_len R r (doneL R r) (allL R r) s
      have hns := nextTo_succ R r (doneL R r) (allL R r) s
      have hmin : minP R r (doneL R r) (allL R r) s = (subsTo s s).foldl (partF R r (doneL R r) (allL R r) s) never := rfl
      generalize minP R r (doneL R r) (allL R r) s = mv at hns hmin
      have hfin : s = 2 ^ n → nextTo R r (doneL R r) (allL R r) s = allL R (r + 1) := fun e => by rw [allL, e, hn]
      generalize nextTo R r (doneL R r) (allL R r) s = nx at hnl hns hfin ⊢
      ((repeat refine Ws ?_);refine W_regionE T_ok ?_; intro Kn hKn)
      rcases Nat.lt_or_ge s (2 ^ n) with hlt3 | hge3
      ·have l2 : ((s : Int) < ((2 ^ n : Nat) : Int)) = True := eq_true (by omega)
       have hs128 : s < 128 := by omega
       have hs256 : s < 256 := by omega
       have hs6 : s < 1000000 := by omega
       have hnl1 : (s + 1 ≤ nx.length) = True := eq_true (by omega)
       have hsx : s < nx.length := by omega
       ((simp (maxSteps := 1000000) only [VL,VM,↓VG,reduceIte,reduceCtorEq,zA,zB,zC,zD,zE,zF,zG,zH,zI,zJ, l2]); rw [hKn];clear hKn Kn;simp only [QV,reduceIte,reduceCtorEq,Nat.reduceEqDiff])
       ((repeat refine Ws ?_);refine Wt (by first|rfl|simp only [EV,zF,reduceIte]) ?_)
       (((repeat refine Ws ?_);refine W_skip ?_); simp only [QV,reduceIte,reduceCtorEq,Nat.reduceEqDiff])
       ((repeat refine Ws ?_);refine W_block ?_)
       ((repeat refine Ws ?_);refine W_regionE T_ok ?_; intro Kn hKn)
       ((simp (maxSteps := 1000000) only [VL,VM,↓VG,reduceIte,reduceCtorEq,zA,zB,zC,zD,zE,zF,zG,zH,zI,zJ]); rw [hKn];clear hKn Kn;simp only [QV,reduceIte,reduceCtorEq,Nat.reduceEqDiff])
       ((repeat refine Ws ?_);refine W_regionE T_ok ?_; intro Kn hKn)
       ((simp (maxSteps := 1000000) only [VL,VM,↓VG,reduceIte,reduceCtorEq,zA,zB,zC,zD,zE,zF,zG,zH,zI,zJ, hs128, hnl1]); rw [hKn];clear hKn Kn;simp only [QV,reduceIte,reduceCtorEq,Nat.reduceEqDiff])
       rw [splice_vi hsx]
       ((repeat refine Ws ?_);refine W_regionE T_ok ?_; intro Kn hKn)
       ((simp (maxSteps := 1000000) only [VL,VM,↓VG,reduceIte,reduceCtorEq,zA,zB,zC,zD,zE,zF,zG,zH,zI,zJ]); rw [hKn];clear hKn Kn;simp only [QV,reduceIte,reduceCtorEq,Nat.reduceEqDiff])
       rw [show (1048576 : Int) = never from rfl]
       ((repeat refine Ws ?_);refine W_block ?_; (repeat refine Ws ?_)); refine W_loopS (fun q : Nat × Int => [(1, .ptr M.H.length 0), (3, .ptr p3 0), (5, vi r), (6, .ip ((doneL R r).map (PV.int .i64))), (7, .ptr H1.length 0), (8, vi s), (9, vi q.1), (25, vi R.y.ramps.length), (26, vi r), (38, vi ((2 ^ n : Nat) : Int)), (39, vi s)]) (fun q => ⟨H1 ++ [.obj ((nx.set s q.2).map vi)], M.lg⟩) (fun q => q.1) (fun q => q.1 &&& s = q.1 ∧ (subsTo s q.1).foldl (partF R r (doneL R r) (allL R r) s) q.2 = mv) (s, never) ⟨Nat.and_self s, hmin.symm⟩ ⟨rfl, rfl, rfl, rfl, rfl, rfl, rfl, rfl, rfl, rfl, rfl, trivial⟩ rfl ?_
       ·rintro ⟨q, m⟩ ⟨hqs, hqf⟩
        simp only at hqs hqf
        have hqle : q ≤ s := by
         have : q &&& s ≤ s := Nat.and_le_right
         omega
        have hq128 : q < 128 := by omega
        have hq256 : q < 256 := by omega
        have hq6 : q < 1000000 := by omega
        have hsd := sdiff_le s q
        have hsd128 : sdiff s q < 128 := by omega
        have e0 : partF R r (doneL R r) (allL R r) s m q = partF R r (doneL R r) (allL R r) s m q := rfl
        conv at e0 => rhs; unfold partF
        obtain ⟨m', hm'⟩ : ∃ m', m' = partF R r (doneL R r) (allL R r) s m q := ⟨_, rfl⟩
        have hnm : (nx.set s m).length = 128 := by simp [hnl]
        have hgs := times_get hnm hs128
        have hgv : (nx.set s m).getD s 0 = m := by
         rw [List.getD_eq_getElem?_getD, List.getElem?_set_self (by omega)]; rfl
        rw [hgv] at hgs
        have hga := times_get hall hsd128
        have hgd : (((doneL R r).drop q).map (PV.int .i64))[0]? = some (.int .i64 ((doneL R r).getD q 0)) := by
         have : q < (doneL R r).length := by omega
         simp [this]
        have hnm1 : (s + 1 ≤ 128) = True := eq_true (by omega)
        have hset2 : ∀ x : Int, (nx.set s m).set s x = nx.set s x := fun x => by rw [List.set_set]
        ((repeat refine Ws ?_);refine W_block ?_)
        (repeat refine Ws ?_)
        refine W_drawE T_ok [] (by kernel_rfl) (by kernel_rfl) ?_
        intro Kn hKn
        generalize hi : mkPlan _ = infs
        cbv at hi
        subst hi
        ((simp (maxSteps := 1000000) only [VL,VM,↓VG,reduceIte,reduceCtorEq,zA,zB,zC,zD,zE,zF,zG,zH,zI,zJ, c_su, hq256, hs256, g1, ry_m hR hr3, hr3, u8_and, hmu2, u8_eql]); rw [hKn];clear hKn Kn;simp only [QV,reduceIte,reduceCtorEq,Nat.reduceEqDiff])
        generalize hb : decide (q &&& mustAt R r = s &&& mustAt R r) = b
        refine W_thenC [(1, .ptr M.H.length 0), (3, .ptr p3 0), (5, vi r), (6, .ip ((doneL R r).map (PV.int .i64))), (7, .ptr H1.length 0), (8, vi s), (9, vi q), (25, vi R.y.ramps.length), (26, vi r), (38, vi ((2 ^ n : Nat) : Int)), (39, vi s)] ⟨H1 ++ [.obj ((nx.set s m').map vi)], M.lg⟩ ?_ ?_
        ·cases b
         ·rw [if_neg (of_decide_eq_false hb)] at e0
          ((repeat refine Ws ?_);refine Wf (by first|rfl|simp only [EV,zF,reduceIte]) ?_)
          (((repeat refine Ws ?_);refine W_skip ?_); simp only [QV,reduceIte,reduceCtorEq,Nat.reduceEqDiff])
          exact ⟨trivial, trivial, by rw [hm', e0], rfl, rfl, rfl, rfl, rfl, rfl, rfl, rfl, rfl, rfl, rfl, trivial⟩
         ·rw [if_pos (of_decide_eq_true hb)] at e0
          ((repeat refine Ws ?_);refine Wt (by first|rfl|simp only [EV,zF,reduceIte]) ?_)
          (repeat refine Ws ?_)
          refine W_drawE T_ok [] (by kernel_rfl) (by kernel_rfl) ?_
          intro Kn hKn
          generalize hi : mkPlan _ = infs
          cbv at hi
          subst hi
          ((simp (maxSteps := 1000000) only [VL,VM,↓VG,reduceIte,reduceCtorEq,zA,zB,zC,zD,zE,zF,zG,zH,zI,zJ, hs128, hq128, hsd128, hgs, hgd, g3, i_andNot, hs6, hq6, hga, hnm, hnm1]); rw [hKn];clear hKn Kn;simp only [QV,reduceIte,reduceCtorEq,Nat.reduceEqDiff])
          rw [splice_vi (by omega), hset2]
          exact ⟨trivial, trivial, by rw [hm', e0], rfl, rfl, rfl, rfl, rfl, rfl, rfl, rfl, rfl, rfl, rfl, trivial⟩
        ((repeat refine Ws ?_);refine W_regionE T_ok ?_; intro Kn hKn)
        rcases Nat.eq_zero_or_pos q with h0 | h0
        ·have h0' : ((q : Int) = 0) = True := eq_true (by omega)
         have hmv : m' = mv := by
          rw [← hqf, h0, subsTo_zero, List.foldl_cons, List.foldl_nil, hm', h0]
         ((simp (maxSteps := 1000000) only [VL,VM,↓VG,reduceIte,reduceCtorEq,zA,zB,zC,zD,zE,zF,zG,zH,zI,zJ, h0']); rw [hKn];clear hKn Kn;simp only [QV,reduceIte,reduceCtorEq,Nat.reduceEqDiff])
         ((repeat refine Ws ?_);refine Wt (by first|rfl|simp only [EV,zF,reduceIte]) ?_)
         (((repeat refine Ws ?_);refine W_exit ?_); simp only [QV,reduceIte,reduceCtorEq,Nat.reduceEqDiff])
         ((repeat refine Ws ?_);refine W_regionE T_ok ?_; intro Kn hKn)
         ((simp (maxSteps := 1000000) only [VL,VM,↓VG,reduceIte,reduceCtorEq,zA,zB,zC,zD,zE,zF,zG,zH,zI,zJ, l1]); rw [hKn];clear hKn Kn;simp only [QV,reduceIte,reduceCtorEq,Nat.reduceEqDiff])
         refine LoopK.mk (s + 1) (by omega) (by omega) ⟨rfl, rfl, rfl, rfl, rfl, rfl, rfl, rfl, rfl, trivial⟩ ?_
         rw [hns, hmv]
        ·have h0' : ((q : Int) = 0) = False := eq_false (by omega)
         have hq1 : (q : Int) - 1 = ((q - 1 : Nat) : Int) := by omega
         have hqb : -9223372036854775808 ≤ ((q - 1 : Nat) : Int) ∧ ((q - 1 : Nat) : Int) < 9223372036854775808 := by omega
         have hq16 : q - 1 < 1000000 := by omega
         have hnx2 := subsTo_next hs128 hq128 hqs h0
         rw [hnx2, List.foldl_cons, ← hm'] at hqf
         have hlt4 : (q - 1) &&& s < q := by
          have : (q - 1) &&& s ≤ q - 1 := Nat.and_le_left
          omega
         ((simp (maxSteps := 1000000) only [VL,VM,↓VG,reduceIte,reduceCtorEq,zA,zB,zC,zD,zE,zF,zG,zH,zI,zJ, h0']); rw [hKn];clear hKn Kn;simp only [QV,reduceIte,reduceCtorEq,Nat.reduceEqDiff])
         ((repeat refine Ws ?_);refine Wf (by first|rfl|simp only [EV,zF,reduceIte]) ?_)
         (((repeat refine Ws ?_);refine W_skip ?_); simp only [QV,reduceIte,reduceCtorEq,Nat.reduceEqDiff])
         ((repeat refine Ws ?_);refine W_regionE T_ok ?_; intro Kn hKn)
         ((simp (maxSteps := 1000000) only [VL,VM,↓VG,reduceIte,reduceCtorEq,zA,zB,zC,zD,zE,zF,zG,zH,zI,zJ, hq1, hqb, i_and, hq16, hs6]); rw [hKn];clear hKn Kn;simp only [QV,reduceIte,reduceCtorEq,Nat.reduceEqDiff])
         exact LoopK.mk ((q - 1) &&& s, m') hlt4 ⟨by rw [Nat.and_assoc, Nat.and_self], hqf⟩ ⟨rfl, rfl, rfl, rfl, rfl, rfl, rfl, rfl, rfl, rfl, rfl, trivial⟩ rfl
      ·have l2 : ((s : Int) < ((2 ^ n : Nat) : Int)) = False := eq_false (by omega)
       obtain rfl : s = 2 ^ n := by omega
       ((simp (maxSteps := 1000000) only [VL,VM,↓VG,reduceIte,reduceCtorEq,zA,zB,zC,zD,zE,zF,zG,zH,zI,zJ, l2]); rw [hKn];clear hKn Kn;simp only [QV,reduceIte,reduceCtorEq,Nat.reduceEqDiff])
       ((repeat refine Ws ?_);refine Wf (by first|rfl|simp only [EV,zF,reduceIte]) ?_)
       (((repeat refine Ws ?_);refine W_exit ?_); simp only [QV,reduceIte,reduceCtorEq,Nat.reduceEqDiff])
       ((repeat refine Ws ?_);refine W_regionE T_ok ?_; intro Kn hKn)
       ((simp (maxSteps := 1000000) only [VL,VM,↓VG,reduceIte,reduceCtorEq,zA,zB,zC,zD,zE,zF,zG,zH,zI,zJ]); rw [hKn];clear hKn Kn;simp only [QV,reduceIte,reduceCtorEq,Nat.reduceEqDiff])
       ((repeat refine Ws ?_);refine W_regionE T_ok ?_; intro Kn hKn)
       ((simp (maxSteps := 1000000) only [VL,VM,↓VG,reduceIte,reduceCtorEq,zA,zB,zC,zD,zE,zF,zG,zH,zI,zJ, j1]); rw [hKn];clear hKn Kn;simp only [QV,reduceIte,reduceCtorEq,Nat.reduceEqDiff])
       refine LoopK.mk ⟨r + 1, H1.length, J ++ [.obj ((allL R (r + 1)).map vi)]⟩ (by simp; omega) ⟨by simp; omega, by rw [hH1]; simp, ?_⟩ ⟨rfl, rfl, rfl, rfl, trivial⟩ ?_
       ·show (M.H ++ .obj (ryC R) :: (J ++ [.obj ((allL R (r + 1)).map vi)]))[H1.length]? = _
        rw [show M.H ++ VObj.obj (ryC R) :: (J ++ [.obj ((allL R (r + 1)).map vi)]) = H1 ++ [.obj ((allL R (r + 1)).map vi)] by rw [hH1]; simp, hget0]
        rfl
       ·rw [hfin rfl, hH1, List.append_assoc]; rfl
    ·have j2 : ((r : Int) < (R.y.ramps.length : Int)) = False := eq_false (by omega)
     obtain rfl : r = R.y.ramps.length := by omega
     ((simp (maxSteps := 1000000) only [VL,VM,↓VG,reduceIte,reduceCtorEq,zA,zB,zC,zD,zE,zF,zG,zH,zI,zJ, j2]); rw [hKn];clear hKn Kn;simp only [QV,reduceIte,reduceCtorEq,Nat.reduceEqDiff])
     ((repeat refine Ws ?_);refine Wf (by first|rfl|simp only [EV,zF,reduceIte]) ?_)
     (((repeat refine Ws ?_);refine W_exit ?_); simp only [QV,reduceIte,reduceCtorEq,Nat.reduceEqDiff])
     ((repeat refine Ws ?_);refine W_regionE T_ok ?_; intro Kn hKn)
     ((simp (maxSteps := 1000000) only [VL,VM,↓VG,reduceIte,reduceCtorEq,zA,zB,zC,zD,zE,zF,zG,zH,zI,zJ]); rw [hKn];clear hKn Kn;simp only [QV,reduceIte,reduceCtorEq,Nat.reduceEqDiff])
     (repeat refine Ws ?_)
     refine W_ret ⟨.inr rfl, rfl, p3, _, rfl, hp3, rfl, rfl, ?_⟩
     rw [soonestL, List.map_map]
     exact hg3
end Go.Proofs.Ythcicaelnchfdaa.Vm

/- A slot is put, on values. (Vm) -/
namespace Go.Proofs.Ythcicaelnchfdaa.Vm
open Go Go.Proofs
theorem td_set {α : Type} {l : List α} {k : Nat} {v : α} (h : k < l.length) : l.take k ++ v :: l.drop (k + 1) = l.set k v := by
 rw [List.set_eq_take_append_cons_drop, if_pos h]
theorem wkC_setm : ∀ {l : List (Nat × Nat)} {i a : Nat}, i < l.length → (wkC l).set (i * 2) (su a) = wkC (l.set i (a, (l.getD i (0, 0)).2))
 | w :: l, 0, a, _ => by simp [wkC]
 | w :: l, i + 1, a, h => by
  have ih := wkC_setm (l := l) (i := i) (a := a) (by simpa using h)
  have e : (i + 1) * 2 = i * 2 + 1 + 1 := by omega
  have hc : ∀ (w : Nat × Nat) (l : List (Nat × Nat)), wkC (w :: l) = su w.1 :: su w.2 :: wkC l := fun w l => by simp [wkC]
  rw [e, hc, List.set_cons_succ, List.set_cons_succ, ih, List.set_cons_succ, hc]
  simp
theorem wkC_setn : ∀ {l : List (Nat × Nat)} {i a : Nat}, i < l.length → (wkC l).set (i * 2 + 1) (su a) = wkC (l.set i ((l.getD i (0, 0)).1, a))
 | w :: l, 0, a, _ => by simp [wkC]
 | w :: l, i + 1, a, h => by
  have ih := wkC_setn (l := l) (i := i) (a := a) (by simpa using h)
  have e : (i + 1) * 2 + 1 = i * 2 + 1 + 1 + 1 := by omega
  have hc : ∀ (w : Nat × Nat) (l : List (Nat × Nat)), wkC (w :: l) = su w.1 :: su w.2 :: wkC l := fun w l => by simp [wkC]
  rw [e, hc, List.set_cons_succ, List.set_cons_succ, ih, List.set_cons_succ, hc]
  simp
section
variable {R : Ry} (h : RyOk R)
include h
theorem ry_setm {i a : Nat} (hi : i < 3) : (ryC R).take (3 + i * 2) ++ su a :: (ryC R).drop (3 + (i * 2 + 1)) = ryC { R with wk := R.wk.set i (a, notAt R i) } := by
 have hl := ry_len h
 have hw := h.wl
 have hwl := wkC_len R.wk
 rw [show 3 + (i * 2 + 1) = (3 + i * 2) + 1 by omega, td_set (by omega)]
 unfold ryC
 rw [List.set_append_right _ _ (by simp), show 3 + i * 2 - (yardC R.y).length = i * 2 by simp, List.set_append_left _ _ (by omega), wkC_setm (by omega)]
 rfl
theorem ry_setn {i a : Nat} (hi : i < 3) : (ryC R).take (3 + (i * 2 + 1)) ++ su a :: (ryC R).drop (3 + (i * 2 + 2)) = ryC { R with wk := R.wk.set i (mustAt R i, a) } := by
 have hl := ry_len h
 have hw := h.wl
 have hwl := wkC_len R.wk
 rw [show 3 + (i * 2 + 2) = (3 + (i * 2 + 1)) + 1 by omega, td_set (by omega)]
 unfold ryC
 rw [List.set_append_right _ _ (by simp), show 3 + (i * 2 + 1) - (yardC R.y).length = i * 2 + 1 by simp, List.set_append_left _ _ (by omega), wkC_setn (by omega)]
 rfl
theorem ry_setf {c : Nat} {f : Int} (hc : c < 7) : (ryC R).take (9 + c) ++ vi f :: (ryC R).drop (9 + (c + 1)) = ryC { R with frm := R.frm.set c f } := by
 have hl := ry_len h
 have hw := h.wl
 have hf := h.fl
 have hwl := wkC_len R.wk
 rw [show 9 + (c + 1) = (9 + c) + 1 by omega, td_set (by omega)]
 unfold ryC
 rw [List.set_append_right _ _ (by simp; omega), List.set_append_right _ _ (by simp; omega), List.set_append_left _ _ (by simp; omega)]
 rw [show 9 + c - (yardC R.y).length - (wkC R.wk).length = c by simp; omega, ← List.map_set]
end
theorem refsL_nil : ∀ {l : List VV}, (∀ v ∈ l, refs v = []) → refsL l = []
 | [], _ => rfl
 | v :: l, h => by rw [refsL, h v (by simp), refsL_nil (l := l) fun x hx => h x (by simp [hx])]; rfl
theorem ry_refs (R : Ry) : refsL (ryC R) = [] := by
 refine refsL_nil fun v hv => ?_
 unfold ryC wkC at hv
 rcases List.mem_append.1 hv with hv | hv
 ·simp only [yardC, List.mem_cons, List.not_mem_nil, or_false] at hv
  rcases hv with rfl | rfl | rfl <;> rfl
 ·rcases List.mem_append.1 hv with hv | hv
  ·obtain ⟨l, hl, hv⟩ := List.mem_flatten.1 hv
   obtain ⟨w, _, rfl⟩ := List.mem_map.1 hl
   simp only [List.mem_cons, List.not_mem_nil, or_false] at hv
   rcases hv with rfl | rfl <;> rfl
  ·rcases List.mem_append.1 hv with hv | hv
   ·obtain ⟨w, _, rfl⟩ := List.mem_map.1 hv
    rfl
   ·rw [List.mem_singleton] at hv
    subst hv
    rfl
theorem putW_next {k c r : Nat} {l : List (Nat × Nat)} (hk : k < l.length) : putW (k + 1) c r l = (putW k c r l).set k (if k = r then ((l.getD k (0, 0)).1 ||| 2 ^ c, (l.getD k (0, 0)).2) else ((l.getD k (0, 0)).1, (l.getD k (0, 0)).2 ||| 2 ^ c)) := by
 unfold putW
 apply List.ext_getElem?
 intro j
 rw [List.getElem?_set, List.getElem?_mapIdx, List.getElem?_mapIdx]
 by_cases hj : k = j
 ·subst hj
  rw [if_pos rfl, if_pos (by simpa using hk), List.getElem?_eq_getElem hk]
  simp [hk]
 ·rw [if_neg hj]
  congr 1
  funext w
  by_cases h1 : j < k
  ·rw [if_pos h1, if_pos (by omega)]
  ·rw [if_neg h1, if_neg (by omega)]
theorem putW_zero (c r : Nat) (l : List (Nat × Nat)) : putW 0 c r l = l := by
 unfold putW
 apply List.ext_getElem?
 intro j
 rw [List.getElem?_mapIdx]
 cases l[j]? <;> simp
theorem own_retC0 {f : Nat} {fn : Func} {M : Mem} {L : List VObj} {e : Env} {ex : Exit} {a t : Nat} {X Z : VV} (hex : ex = .normal ∨ ex = .ret) (h1 : fn.results.toList = [.cell a t]) (hr : vload T t (get e a) ⟨M.H ++ L, M.lg⟩ = some Z) (hZ : frz M.H.length (M.H ++ L) Z = X) (h2 : refs X = []) : ownQ T f fn M (fun r M' => M' = M ∧ r = X) ex e ⟨M.H ++ L, M.lg⟩ [] :=
 ⟨hex, rfl, ⟨[], by simp, by simp⟩, M.H, L, rfl, rfl, [Z], by rw [h1]; simp [vresL, hr], X, hZ, by simp [h2], rfl, rfl⟩
def putTo (R : Ry) (c r k : Nat) : Ry := { R with wk := putW k c r R.wk }
theorem putTo_ok {R : Ry} (hR : RyOk R) {c r k : Nat} (hc : c < 7) (hk : k ≤ 3) : RyOk (putTo R c r k) :=
 ⟨hR.y, by simp [putTo, putW, hR.wl], hR.fl, fun i => putW_bd hc (by rw [hR.wl]; exact hk) hR.w i, hR.f, hR.t0, hR.t1⟩
theorem putTo_at {R : Ry} (hR : RyOk R) {c r k : Nat} (hk : k ≤ 3) : mustAt (putTo R c r k) k = mustAt R k ∧ notAt (putTo R c r k) k = notAt R k := by
 unfold mustAt notAt putTo
 simp only
 rw [putW_at _ _ _ _ _ (by rw [hR.wl]; exact hk), if_neg (Nat.lt_irrefl k)]
 exact ⟨rfl, rfl⟩
theorem putTo_succ {R : Ry} (hR : RyOk R) {c r k : Nat} (hk : k < 3) : putTo R c r (k + 1) = { putTo R c r k with wk := (putTo R c r k).wk.set k (if k = r then (mustAt R k ||| 2 ^ c, notAt R k) else (mustAt R k, notAt R k ||| 2 ^ c)) } := by
 unfold putTo mustAt notAt
 simp only
 rw [putW_next (by rw [hR.wl]; exact hk)]
set_option maxHeartbeats 2000000 in
theorem put_v {R : Ry} (hR : RyOk R) {w yb rb cb fb : Nat} {c r : Nat} {f : Int} (M : Mem) (hw : M.H[w]? = some (.obj (ryC R))) (hyb : M.H[yb]? = some (.obj (yardC R.y))) (hrb : M.H[rb]? = some (.obj [vi r])) (hcb : M.H[cb]? = some (.obj [vi c])) (hfb : M.H[fb]? = some (.obj [vi f])) (hc : c < 7) :
  VC Try.prog 62 [.ptr w 0, .ptr yb 0, .ptr rb 0, .ptr cb 0, .ptr fb 0] M (fun x M' => M' = M ∧ x = ryV (putR R c r f)) := by
 have hn3 := hR.y.n1
 have hlen := ry_len hR
 have hle := ry_le hR
 have hc77 : c ≤ 7 := by omega
 have hpc : 2 ^ c < 256 := Nat.lt_of_le_of_lt (Nat.pow_le_pow_right (n := 2) (by decide) hc77) (by decide)
 have gw := fun X => app_get hw X
 have gy := fun X => app_get hyb X
 have gr := fun X => app_get hrb X
 have gc := fun X => app_get hcb X
 have gf := fun X => app_get hfb X
 refine VC_own' T_ok (f := 62) (fn := Try.f62) (by kernel_rfl) rfl Try.ntmps62 (by rfl) (by rfl) ?_
 ((repeat refine Ws ?_);refine W_regionE T_ok ?_; intro Kn hKn)
 ((simp (maxSteps := 1000000) only [VL,VM,↓VG,reduceIte,reduceCtorEq,zA,zB,zC,zD,zE,zF,zG,zH,zI,zJ]); rw [hKn];clear hKn Kn;simp only [QV,reduceIte,reduceCtorEq,Nat.reduceEqDiff])
 ((repeat refine Ws ?_);refine W_regionE T_ok ?_; intro Kn hKn)
 ((simp (maxSteps := 1000000) only [VL,VM,↓VG,reduceIte,reduceCtorEq,zA,zB,zC,zD,zE,zF,zG,zH,zI,zJ, gw, hle, ry_take hR, ry_strip, hlen, ry_cells, ry_refs]); rw [hKn];clear hKn Kn;simp only [QV,reduceIte,reduceCtorEq,Nat.reduceEqDiff])
 ((repeat refine Ws ?_);refine W_regionE T_ok ?_; intro Kn hKn)
 ((simp (maxSteps := 1000000) only [VL,VM,↓VG,reduceIte,reduceCtorEq,zA,zB,zC,zD,zE,zF,zG,zH,zI,zJ, gy]); rw [hKn];clear hKn Kn;simp only [QV,reduceIte,reduceCtorEq,Nat.reduceEqDiff])
 ((repeat refine Ws ?_);refine W_block ?_; (repeat refine Ws ?_)); refine W_loopS (fun i : Nat => [(0, .ptr w 0), (1, .ptr yb 0), (2, .ptr rb 0), (3, .ptr cb 0), (4, .ptr fb 0), (5, .ptr M.H.length 0), (6, .ptr (M.H.length + 1) 0), (11, vi R.y.ramps.length), (12, vi i)]) (fun i => ⟨M.H ++ [.obj [.sf 0 [], .sf 0 [], vi 0, .p (.int .u8 0), .p (.int .u8 0), .p (.int .u8 0), .p (.int .u8 0), .p (.int .u8 0), .p (.int .u8 0), vi 0, vi 0, vi 0, vi 0, vi 0, vi 0, vi 0, vi 0], .obj (ryC (putTo R c r i))], M.lg⟩) (fun i => R.y.ramps.length - i) (fun i => i ≤ R.y.ramps.length) 0 (Nat.zero_le _) ⟨rfl, rfl, rfl, rfl, rfl, rfl, rfl, rfl, rfl, trivial⟩ (by rw [putTo, putW_zero]) ?_
 intro i hi
 have k1 : -9223372036854775808 ≤ (i : Int) + 1 ∧ (i : Int) + 1 < 9223372036854775808 := by omega
 ((repeat refine Ws ?_);refine W_regionE T_ok ?_; intro Kn hKn)
 rcases Nat.lt_or_ge i R.y.ramps.length with hlt | hge
 ·have k2 : ((i : Int) < (R.y.ramps.length : Int)) = True := eq_true (by omega)
  have hi3 : i < 3 := by omega
  have hP := putTo_ok (r := r) hR hc (show i ≤ 3 by omega)
  obtain ⟨a1, a2⟩ := putTo_at (c := c) (r := r) hR (show i ≤ 3 by omega)
  have hsucc := putTo_succ (c := c) (r := r) hR hi3
  have hPl := ry_len hP
  have b1 := (hR.w i).1
  have b2 := (hR.w i).2
  have b1' : mustAt R i < 256 := by omega
  have b2' : notAt R i < 256 := by omega
  have e1 := ry_m hP hi3
  have e2 := ry_n hP hi3
  rw [a1] at e1
  rw [a2] at e2
  have hs1 := fun a => ry_setm (a := a) hP hi3
  have hs2 := fun a => ry_setn (a := a) hP hi3
  rw [a2] at hs1
  rw [a1] at hs2
  have hl1 : (3 + (i * 2 + 1) ≤ 17) = True := eq_true (by omega)
  have hl2 : (3 + (i * 2 + 2) ≤ 17) = True := eq_true (by omega)
  generalize putTo R c r i = P at *
  ((simp (maxSteps := 1000000) only [VL,VM,↓VG,reduceIte,reduceCtorEq,zA,zB,zC,zD,zE,zF,zG,zH,zI,zJ, k2]); rw [hKn];clear hKn Kn;simp only [QV,reduceIte,reduceCtorEq,Nat.reduceEqDiff])
  ((repeat refine Ws ?_);refine Wt (by first|rfl|simp only [EV,zF,reduceIte]) ?_)
  (((repeat refine Ws ?_);refine W_skip ?_); simp only [QV,reduceIte,reduceCtorEq,Nat.reduceEqDiff])
  ((repeat refine Ws ?_);refine W_block ?_)
  ((repeat refine Ws ?_);refine W_regionE T_ok ?_; intro Kn hKn)
  ((simp (maxSteps := 1000000) only [VL,VM,↓VG,reduceIte,reduceCtorEq,zA,zB,zC,zD,zE,zF,zG,zH,zI,zJ]); rw [hKn];clear hKn Kn;simp only [QV,reduceIte,reduceCtorEq,Nat.reduceEqDiff])
  ((repeat refine Ws ?_);refine W_regionE T_ok ?_; intro Kn hKn)
  by_cases hir : i = r
  ·have hir' : ((i : Int) = (r : Int)) = True := eq_true (by omega)
   rw [if_pos hir] at hsucc
   ((simp (maxSteps := 1000000) only [VL,VM,↓VG,reduceIte,reduceCtorEq,zA,zB,zC,zD,zE,zF,zG,zH,zI,zJ, gr, hir']); rw [hKn];clear hKn Kn;simp only [QV,reduceIte,reduceCtorEq,Nat.reduceEqDiff])
   ((repeat refine Ws ?_);refine Wt (by first|rfl|simp only [EV,zF,reduceIte]) ?_)
   (repeat refine Ws ?_)
   refine W_drawE T_ok [] (by kernel_rfl) (by kernel_rfl) ?_
   intro Kn hKn
   generalize hi : mkPlan _ = infs
   cbv at hi
   subst hi
   simp (maxSteps := 1000000) only [VL,VM,↓VG,reduceIte,reduceCtorEq,zA,zB,zC,zD,zE,zF,zG,zH,zI,zJ, hi3, e1, gc]
   apply call_d (f := 63) (fn := Try.f63) (by kernel_rfl) (by rfl)
   ·exact one_s c _ hc77
   ((simp (maxSteps := 1000000) only [VL,VM,↓VG,reduceIte,reduceCtorEq,zA,zB,zC,zD,zE,zF,zG,zH,zI,zJ, u8_or, b1', hpc, hi3, hPl, hl1]); rw [hKn];clear hKn Kn;simp only [QV,reduceIte,reduceCtorEq,Nat.reduceEqDiff])
   rw [hs1]
   refine ⟨e1, ?_⟩
   ((repeat refine Ws ?_);refine W_regionE T_ok ?_; intro Kn hKn)
   ((simp (maxSteps := 1000000) only [VL,VM,↓VG,reduceIte,reduceCtorEq,zA,zB,zC,zD,zE,zF,zG,zH,zI,zJ, k1]); rw [hKn];clear hKn Kn;simp only [QV,reduceIte,reduceCtorEq,Nat.reduceEqDiff])
   refine LoopK.mk (i + 1) (by omega) (by omega) ⟨rfl, rfl, rfl, rfl, rfl, rfl, rfl, rfl, rfl, trivial⟩ ?_
   rw [hsucc]
  ·have hir' : ((i : Int) = (r : Int)) = False := eq_false (by omega)
   rw [if_neg hir] at hsucc
   ((simp (maxSteps := 1000000) only [VL,VM,↓VG,reduceIte,reduceCtorEq,zA,zB,zC,zD,zE,zF,zG,zH,zI,zJ, gr, hir']); rw [hKn];clear hKn Kn;simp only [QV,reduceIte,reduceCtorEq,Nat.reduceEqDiff])
   ((repeat refine Ws ?_);refine Wf (by first|rfl|simp only [EV,zF,reduceIte]) ?_)
   (repeat refine Ws ?_)
   refine W_drawE T_ok [] (by kernel_rfl) (by kernel_rfl) ?_
   intro Kn hKn
   generalize hi : mkPlan _ = infs
   cbv at hi
   subst hi
   simp (maxSteps := 1000000) only [VL,VM,↓VG,reduceIte,reduceCtorEq,zA,zB,zC,zD,zE,zF,zG,zH,zI,zJ, hi3, e2, gc]
   apply call_d (f := 63) (fn := Try.f63) (by kernel_rfl) (by rfl)
   ·exact one_s c _ hc77
   ((simp (maxSteps := 1000000) only [VL,VM,↓VG,reduceIte,reduceCtorEq,zA,zB,zC,zD,zE,zF,zG,zH,zI,zJ, u8_or, b2', hpc, hi3, hPl, hl2]); rw [hKn];clear hKn Kn;simp only [QV,reduceIte,reduceCtorEq,Nat.reduceEqDiff])
   rw [hs2]
   refine ⟨e2, ?_⟩
   ((repeat refine Ws ?_);refine W_regionE T_ok ?_; intro Kn hKn)
   ((simp (maxSteps := 1000000) only [VL,VM,↓VG,reduceIte,reduceCtorEq,zA,zB,zC,zD,zE,zF,zG,zH,zI,zJ, k1]); rw [hKn];clear hKn Kn;simp only [QV,reduceIte,reduceCtorEq,Nat.reduceEqDiff])
   refine LoopK.mk (i + 1) (by omega) (by omega) ⟨rfl, rfl, rfl, rfl, rfl, rfl, rfl, rfl, rfl, trivial⟩ ?_
   rw [hsucc]
 ·have k2 : ((i : Int) < (R.y.ramps.length : Int)) = False := eq_false (by omega)
  obtain rfl : i = R.y.ramps.length := by omega
  have hP := putTo_ok (r := r) hR hc hn3
  have hPl := ry_len hP
  have hQ : RyOk (putR R c r f) → (ryC (putR R c r f)).length = 17 := fun h => ry_len h
  have hs := ry_setf (f := f) hP hc
  have hfin : ({ putTo R c r R.y.ramps.length with frm := (putTo R c r R.y.ramps.length).frm.set c f } : Ry) = putR R c r f := rfl
  rw [hfin] at hs
  have hl3 : (9 + (c + 1) ≤ 17) = True := eq_true (by omega)
  have hlen2 : (ryC (putR R c r f)).length = 17 := by
   rw [← hs]
   simp [hPl]; omega
  have hle2 : (17 ≤ (ryC (putR R c r f)).length) = True := eq_true (by omega)
  have htk : (ryC (putR R c r f)).take 17 = ryC (putR R c r f) := List.take_of_length_le (by omega)
  ((simp (maxSteps := 1000000) only [VL,VM,↓VG,reduceIte,reduceCtorEq,zA,zB,zC,zD,zE,zF,zG,zH,zI,zJ, k2]); rw [hKn];clear hKn Kn;simp only [QV,reduceIte,reduceCtorEq,Nat.reduceEqDiff])
  ((repeat refine Ws ?_);refine Wf (by first|rfl|simp only [EV,zF,reduceIte]) ?_)
  (((repeat refine Ws ?_);refine W_exit ?_); simp only [QV,reduceIte,reduceCtorEq,Nat.reduceEqDiff])
  ((repeat refine Ws ?_);refine W_regionE T_ok ?_; intro Kn hKn)
  ((simp (maxSteps := 1000000) only [VL,VM,↓VG,reduceIte,reduceCtorEq,zA,zB,zC,zD,zE,zF,zG,zH,zI,zJ, gc, gf, hc, hPl, hl3]); rw [hKn];clear hKn Kn;simp only [QV,reduceIte,reduceCtorEq,Nat.reduceEqDiff])
  rw [hs]
  ((repeat refine Ws ?_);refine W_regionE T_ok ?_; intro Kn hKn)
  ((simp (maxSteps := 1000000) only [VL,VM,↓VG,reduceIte,reduceCtorEq,zA,zB,zC,zD,zE,zF,zG,zH,zI,zJ, hle2, htk, ry_strip, hlen2, ry_cells, ry_refs]); rw [hKn];clear hKn Kn;simp only [QV,reduceIte,reduceCtorEq,Nat.reduceEqDiff])
  (repeat refine Ws ?_)
  refine W_ret ?_
  try simp only [thenQ, blockQ]
  refine own_retC0 (Z := ryV (putR R c r f)) (.inr rfl) rfl ?_ rfl (ry_refs _)
  simp [vload, t_ry, get_cons, nat_ble, hlen2, ry_strip, hle2, htk]
end Go.Proofs.Ythcicaelnchfdaa.Vm
