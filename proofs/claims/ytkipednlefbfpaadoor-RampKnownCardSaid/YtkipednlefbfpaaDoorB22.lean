/- A part of the proofs about the chapter of the ramps; it states no condition of its own. -/
import Derived.Test.YtkipednlefbfpaaDoorB21
set_option linter.unusedVariables false
set_option linter.unusedSimpArgs false
open Int renaming reduceLE → zA, reduceLT → zB, reduceToNat → zC, reduceNeg → zD
open Nat renaming reduceLT → zE, reduceEqDiff → zF, reduceAdd → zG, reduceSub → zH, reduceMul → zI, reduceLeDiff → zJ
/- When sets of carts can be away, on values. (Vm) -/
namespace Go.Proofs.YtkipednlefbfpaaDoor.Vm
open Go Go.Proofs
def allTo (i : Nat) : List Int := (List.range i).foldl (fun l s => if 0 < s then l.set s never else l) (List.replicate 128 0)
theorem allTo_succ (i : Nat) : allTo (i + 1) = if 0 < i then (allTo i).set i never else allTo i := by
 unfold allTo
 rw [List.range_succ, List.foldl_append]
 rfl
theorem allTo_len : ∀ i, (allTo i).length = 128
 | 0 => by simp [allTo]
 | i + 1 => by
  rw [allTo_succ]
  split
  ·rw [List.length_set]; exact allTo_len i
  ·exact allTo_len i
set_option maxRecDepth 100000 in
theorem allTo_all : allTo 128 = 0 :: List.replicate 127 never := by decide +kernel
structure SoS where
 r : Nat
 p3 : Nat
 J : List VObj
set_option maxRecDepth 4000 in
set_option maxHeartbeats 4000000 in
theorem soonest_v {R : Ry} (hR : RyOk R) (M : Mem) : VC Tryd.prog 37 [ryV R] M (fun x M' => M' = M ∧ x = .ip ((soonestL R).map (PV.int .i64))) := by
 obtain ⟨n, hn⟩ : ∃ n, n = R.y.carts.length := ⟨_, rfl⟩
 have hm7 := hR.y.m1
 have hn3 := hR.y.n1
 rw [← hn] at hm7
 have h2n : 2 ^ n ≤ 128 := Nat.pow_le_pow_right (n := 2) (by decide) hm7
 have hle := ry_le hR
 refine VC_ipq (f := 37) (fn := Tryd.f37) (by kernel_rfl) rfl Tryd.ntmps37 (by rfl) (by rfl) ?_
 ((repeat refine Ws ?_);refine W_regionE T_ok ?_; intro Kn hKn)
 ((simp (maxSteps := 1000000) only [VL,VM,↓VG,reduceIte,reduceCtorEq,zA,zB,zC,zD,zE,zF,zG,zH,zI,zJ, ry_cells]); rw [hKn];clear hKn Kn;simp only [QV,reduceIte,reduceCtorEq,Nat.reduceEqDiff])
 ((repeat refine Ws ?_);refine W_regionE T_ok ?_; intro Kn hKn)
 ((simp (maxSteps := 1000000) only [VL,VM,↓VG,reduceIte,reduceCtorEq,zA,zB,zC,zD,zE,zF,zG,zH,zI,zJ, zeros_vi, all_vi]); rw [hKn];clear hKn Kn;simp only [QV,reduceIte,reduceCtorEq,Nat.reduceEqDiff])
 ((repeat refine Ws ?_);refine W_regionE T_ok ?_; intro Kn hKn)
 ((simp (maxSteps := 1000000) only [VL,VM,↓VG,reduceIte,reduceCtorEq,zA,zB,zC,zD,zE,zF,zG,zH,zI,zJ]); rw [hKn];clear hKn Kn;simp only [QV,reduceIte,reduceCtorEq,Nat.reduceEqDiff])
 ((repeat refine Ws ?_);refine W_block ?_; (repeat refine Ws ?_)); refine W_loopS (fun i : Nat => [(1, .ptr M.H.length 0), (3, .ptr (M.H.length + 1) 0), (12, vi i)]) (fun i => ⟨M.H ++ [.obj (ryC R), .obj ((allTo i).map vi)], M.lg⟩) (fun i => 128 - i) (fun i => i ≤ 128) 0 (by decide) ⟨rfl, rfl, rfl, trivial⟩ rfl ?_
 ·intro i hi
  have k1 : -9223372036854775808 ≤ (i : Int) + 1 ∧ (i : Int) + 1 < 9223372036854775808 := by omega
  have hal := allTo_len i
  have has := allTo_succ i
  ((repeat refine Ws ?_);refine W_regionE T_ok ?_; intro Kn hKn)
  rcases Nat.lt_or_ge i 128 with hlt | hge
  ·have k2 : ((i : Int) < 128) = True := eq_true (by omega)
   have hi1 : (i + 1 ≤ (allTo i).length) = True := eq_true (by omega)
   ((simp (maxSteps := 1000000) only [VL,VM,↓VG,reduceIte,reduceCtorEq,zA,zB,zC,zD,zE,zF,zG,zH,zI,zJ, k2]); rw [hKn];clear hKn Kn;simp only [QV,reduceIte,reduceCtorEq,Nat.reduceEqDiff])
   ((repeat refine Ws ?_);refine Wt (by first|rfl|simp only [EV,zF,reduceIte]) ?_)
   (((repeat refine Ws ?_);refine W_skip ?_); simp only [QV,reduceIte,reduceCtorEq,Nat.reduceEqDiff])
   ((repeat refine Ws ?_);refine W_block ?_)
   ((repeat refine Ws ?_);refine W_regionE T_ok ?_; intro Kn hKn)
   ((simp (maxSteps := 1000000) only [VL,VM,↓VG,reduceIte,reduceCtorEq,zA,zB,zC,zD,zE,zF,zG,zH,zI,zJ]); rw [hKn];clear hKn Kn;simp only [QV,reduceIte,reduceCtorEq,Nat.reduceEqDiff])
   ((repeat refine Ws ?_);refine W_regionE T_ok ?_; intro Kn hKn)
   by_cases h0 : 0 < i
   ·have h0' : ((0 : Int) < (i : Int)) = True := eq_true (by omega)
    rw [if_pos h0] at has
    ((simp (maxSteps := 1000000) only [VL,VM,↓VG,reduceIte,reduceCtorEq,zA,zB,zC,zD,zE,zF,zG,zH,zI,zJ, h0']); rw [hKn];clear hKn Kn;simp only [QV,reduceIte,reduceCtorEq,Nat.reduceEqDiff])
    ((repeat refine Ws ?_);refine Wt (by first|rfl|simp only [EV,zF,reduceIte]) ?_)
    ((repeat refine Ws ?_);refine W_regionE T_ok ?_; intro Kn hKn)
    ((simp (maxSteps := 1000000) only [VL,VM,↓VG,reduceIte,reduceCtorEq,zA,zB,zC,zD,zE,zF,zG,zH,zI,zJ, hlt, hi1]); rw [hKn];clear hKn Kn;simp only [QV,reduceIte,reduceCtorEq,Nat.reduceEqDiff])
    rw [splice_vi (by omega)]
    ((repeat refine Ws ?_);refine W_regionE T_ok ?_; intro Kn hKn)
    ((simp (maxSteps := 1000000) only [VL,VM,↓VG,reduceIte,reduceCtorEq,zA,zB,zC,zD,zE,zF,zG,zH,zI,zJ, k1]); rw [hKn];clear hKn Kn;simp only [QV,reduceIte,reduceCtorEq,Nat.reduceEqDiff])
    refine LoopK.mk (i + 1) (by omega) (by omega) ⟨rfl, rfl, rfl, trivial⟩ ?_
    rw [has]; rfl
   ·have h0' : ((0 : Int) < (i : Int)) = False := eq_false (by omega)
    rw [if_neg h0] at has
    ((simp (maxSteps := 1000000) only [VL,VM,↓VG,reduceIte,reduceCtorEq,zA,zB,zC,zD,zE,zF,zG,zH,zI,zJ, h0']); rw [hKn];clear hKn Kn;simp only [QV,reduceIte,reduceCtorEq,Nat.reduceEqDiff])
    ((repeat refine Ws ?_);refine Wf (by first|rfl|simp only [EV,zF,reduceIte]) ?_)
    (((repeat refine Ws ?_);refine W_skip ?_); simp only [QV,reduceIte,reduceCtorEq,Nat.reduceEqDiff])
    ((repeat refine Ws ?_);refine W_regionE T_ok ?_; intro Kn hKn)
    ((simp (maxSteps := 1000000) only [VL,VM,↓VG,reduceIte,reduceCtorEq,zA,zB,zC,zD,zE,zF,zG,zH,zI,zJ, k1]); rw [hKn];clear hKn Kn;simp only [QV,reduceIte,reduceCtorEq,Nat.reduceEqDiff])
    refine LoopK.mk (i + 1) (by omega) (by omega) ⟨rfl, rfl, rfl, trivial⟩ ?_
    rw [has]
  ·have k2 : ((i : Int) < 128) = False := eq_false (by omega)
   obtain rfl : i = 128 := by omega
   rw [allTo_all]
   ((simp (maxSteps := 1000000) only [VL,VM,↓VG,reduceIte,reduceCtorEq,zA,zB,zC,zD,zE,zF,zG,zH,zI,zJ, k2]); rw [hKn];clear hKn Kn;simp only [QV,reduceIte,reduceCtorEq,Nat.reduceEqDiff])
   ((repeat refine Ws ?_);refine Wf (by first|rfl|simp only [EV,zF,reduceIte]) ?_)
   (((repeat refine Ws ?_);refine W_exit ?_); simp only [QV,reduceIte,reduceCtorEq,Nat.reduceEqDiff])
   ((repeat refine Ws ?_);refine W_regionE T_ok ?_; intro Kn hKn)
   ((simp (maxSteps := 1000000) only [VL,VM,↓VG,reduceIte,reduceCtorEq,zA,zB,zC,zD,zE,zF,zG,zH,zI,zJ, ry_0]); rw [hKn];clear hKn Kn;simp only [QV,reduceIte,reduceCtorEq,Nat.reduceEqDiff])
   ((repeat refine Ws ?_);refine W_block ?_; (repeat refine Ws ?_)); refine W_loopS (fun q : SoS => [(1, .ptr M.H.length 0), (3, .ptr q.p3 0), (25, vi R.y.ramps.length), (26, vi q.r)]) (fun q => ⟨M.H ++ .obj (ryC R) :: q.J, M.lg⟩) (fun q => R.y.ramps.length - q.r) (fun q => q.r ≤ R.y.ramps.length ∧ M.H.length ≤ q.p3 ∧ (M.H ++ .obj (ryC R) :: q.J)[q.p3]? = some (.obj ((allL R q.r).map vi))) ⟨0, M.H.length + 1, [.obj ((allL R 0).map vi)]⟩ ⟨Nat.zero_le _, by simp, by rw [hget]; rfl⟩ ⟨rfl, rfl, rfl, rfl, trivial⟩ rfl ?_
   ·rintro ⟨r, p3, J⟩ ⟨hr, hp3, hg3⟩
    simp only at hr hp3 hg3
    have j1 : -9223372036854775808 ≤ (r : Int) + 1 ∧ (r : Int) + 1 < 9223372036854775808 := by omega
    ((repeat refine Ws ?_);refine W_regionE T_ok ?_; intro Kn hKn)
    rcases Nat.lt_or_ge r R.y.ramps.length with hlt2 | hge2
    ·have j2 : ((r : Int) < (R.y.ramps.length : Int)) = True := eq_true (by omega)
     have hr3 : r < 3 := by omega
     have hmust := (hR.w r).1
     have hmu2 : mustAt R r < 256 := by omega
     have hdl := doneL_len R r
     have hall := allL_len R r
     obtain ⟨H1, hH1⟩ : ∃ H1, H1 = M.H ++ VObj.obj (ryC R) :: J := ⟨_, rfl⟩
     have g1 : ∀ X, (H1 ++ X)[M.H.length]? = some (.obj (ryC R)) := fun X => by rw [hH1]; simp
     have g3 : ∀ X, (H1 ++ X)[p3]? = some (.obj ((allL R r).map vi)) := fun X => by rw [hH1]; exact app_get hg3 X
     have g10 : H1[M.H.length]? = some (.obj (ryC R)) := by have := g1 []; simpa using this
     rw [← hH1]
     ((simp (maxSteps := 1000000) only [VL,VM,↓VG,reduceIte,reduceCtorEq,zA,zB,zC,zD,zE,zF,zG,zH,zI,zJ, j2]); rw [hKn];clear hKn Kn;simp only [QV,reduceIte,reduceCtorEq,Nat.reduceEqDiff])
     ((repeat refine Ws ?_);refine Wt (by first|rfl|simp only [EV,zF,reduceIte]) ?_)
     (((repeat refine Ws ?_);refine W_skip ?_); simp only [QV,reduceIte,reduceCtorEq,Nat.reduceEqDiff])
     ((repeat refine Ws ?_);refine W_block ?_)
     ((repeat refine Ws ?_);refine W_regionE T_ok ?_; intro Kn hKn)
     ((simp (maxSteps := 1000000) only [VL,VM,↓VG,reduceIte,reduceCtorEq,zA,zB,zC,zD,zE,zF,zG,zH,zI,zJ]); rw [hKn];clear hKn Kn;simp only [QV,reduceIte,reduceCtorEq,Nat.reduceEqDiff])
     ((repeat refine Ws ?_);refine W_regionE T_ok ?_; intro Kn hKn)
     simp (maxSteps := 1000000) only [VL,VM,↓VG,reduceIte,reduceCtorEq,zA,zB,zC,zD,zE,zF,zG,zH,zI,zJ, g10, hle, ry_take hR, ry_strip]
     apply call_eq (f := 53) (fn := Tryd.f53) (by kernel_rfl) (by rfl)
     ·exact done_v hR r _ hlt2
     ((simp (maxSteps := 1000000) only [VL,VM,↓VG,reduceIte,reduceCtorEq,zA,zB,zC,zD,zE,zF,zG,zH,zI,zJ]); rw [hKn];clear hKn Kn;simp only [QV,reduceIte,reduceCtorEq,Nat.reduceEqDiff])
     ((repeat refine Ws ?_);refine W_regionE T_ok ?_; intro Kn hKn)
     ((simp (maxSteps := 1000000) only [VL,VM,↓VG,reduceIte,reduceCtorEq,zA,zB,zC,zD,zE,zF,zG,zH,zI,zJ, zeros_vi, all_vi]); rw [hKn];clear hKn Kn;simp only [QV,reduceIte,reduceCtorEq,Nat.reduceEqDiff])
     ((repeat refine Ws ?_);refine W_regionE T_ok ?_; intro Kn hKn)
     ((simp (maxSteps := 1000000) only [VL,VM,↓VG,reduceIte,reduceCtorEq,zA,zB,zC,zD,zE,zF,zG,zH,zI,zJ, g1, ry_1, ← hn, i_shl, hm7]); rw [hKn];clear hKn Kn;simp only [QV,reduceIte,reduceCtorEq,Nat.reduceEqDiff])
     ((repeat refine Ws ?_);refine W_block ?_; (repeat refine Ws ?_)); refine W_loopS (fun s : Nat => [(1, .ptr M.H.length 0), (3, .ptr p3 0), (5, vi r), (6, .ip ((doneL R r).map (PV.int .i64))), (7, .ptr H1.length 0), (25, vi R.y.ramps.length), (26, vi r), (38, vi ((2 ^ n : Nat) : Int)), (39, vi s)]) (fun s => ⟨H1 ++ [.obj ((nextTo R r (doneL R r) (allL R r) s).map vi)], M.lg⟩) (fun s => 2 ^ n - s) (fun s => s ≤ 2 ^ n) 0 (Nat.zero_le _) ⟨rfl, rfl, rfl, rfl, rfl, rfl, rfl, rfl, rfl, trivial⟩ rfl ?_
     ·intro s hs
      have l1 : -9223372036854775808 ≤ (s : Int) + 1 ∧ (s : Int) + 1 < 9223372036854775808 := by omega
      have hnl := nextTo_len R r (doneL R r) (allL R r) s
      have hns := nextTo_succ R r (doneL R r) (allL R r) s
      have hmin : minP R r (doneL R r) (allL R r) s = (subsTo s s).foldl (partF R r (doneL R r) (allL R r) s) never := rfl
      generalize minP R r (doneL R r) (allL R r) s = mv at hns hmin
      have hfin : s = 2 ^ n → nextTo R r (doneL R r) (allL R r) s = allL R (r + 1) := fun e => by rw [allL, e, hn]
      generalize nextTo R r (doneL R r) (allL R r) s = nx at hnl hns hfin ⊢
      ((repeat refine Ws ?_);refine W_regionE T_ok ?_; intro Kn hKn)
      rcases Nat.lt_or_ge s (2 ^ n) with hlt3 | hge3
      ·have l2 : ((s : Int) < ((2 ^ n : Nat) : Int)) = True := eq_true (by omega)
       have hs128 : s < 128 := by omega
       have hs256 : s < 256 := by omega
       have hs6 : s < 1000000 := by omega
       have hnl1 : (s + 1 ≤ nx.length) = True := eq_true (by omega)
       have hsx : s < nx.length := by omega
       ((simp (maxSteps := 1000000) only [VL,VM,↓VG,reduceIte,reduceCtorEq,zA,zB,zC,zD,zE,zF,zG,zH,zI,zJ, l2]); rw [hKn];clear hKn Kn;simp only [QV,reduceIte,reduceCtorEq,Nat.reduceEqDiff])
       ((repeat refine Ws ?_);refine Wt (by first|rfl|simp only [EV,zF,reduceIte]) ?_)
       (((repeat refine Ws ?_);refine W_skip ?_); simp only [QV,reduceIte,reduceCtorEq,Nat.reduceEqDiff])
       ((repeat refine Ws ?_);refine W_block ?_)
       ((repeat refine Ws ?_);refine W_regionE T_ok ?_; intro Kn hKn)
       ((simp (maxSteps := 1000000) only [VL,VM,↓VG,reduceIte,reduceCtorEq,zA,zB,zC,zD,zE,zF,zG,zH,zI,zJ]); rw [hKn];clear hKn Kn;simp only [QV,reduceIte,reduceCtorEq,Nat.reduceEqDiff])
       ((repeat refine Ws ?_);refine W_regionE T_ok ?_; intro Kn hKn)
       ((simp (maxSteps := 1000000) only [VL,VM,↓VG,reduceIte,reduceCtorEq,zA,zB,zC,zD,zE,zF,zG,zH,zI,zJ, hs128, hnl1]); rw [hKn];clear hKn Kn;simp only [QV,reduceIte,reduceCtorEq,Nat.reduceEqDiff])
       rw [splice_vi hsx]
       ((repeat refine Ws ?_);refine W_regionE T_ok ?_; intro Kn hKn)
       ((simp (maxSteps := 1000000) only [VL,VM,↓VG,reduceIte,reduceCtorEq,zA,zB,zC,zD,zE,zF,zG,zH,zI,zJ]); rw [hKn];clear hKn Kn;simp only [QV,reduceIte,reduceCtorEq,Nat.reduceEqDiff])
       rw [show (1048576 : Int) = never from rfl]
       ((repeat refine Ws ?_);refine W_block ?_; (repeat refine Ws ?_)); refine W_loopS (fun q : Nat × Int => [(1, .ptr M.H.length 0), (3, .ptr p3 0), (5, vi r), (6, .ip ((doneL R r).map (PV.int .i64))), (7, .ptr H1.length 0), (8, vi s), (9, vi q.1), (25, vi R.y.ramps.length), (26, vi r), (38, vi ((2 ^ n : Nat) : Int)), (39, vi s)]) (fun q => ⟨H1 ++ [.obj ((nx.set s q.2).map vi)], M.lg⟩) (fun q => q.1) (fun q => q.1 &&& s = q.1 ∧ (subsTo s q.1).foldl (partF R r (doneL R r) (allL R r) s) q.2 = mv) (s, never) ⟨Nat.and_self s, hmin.symm⟩ ⟨rfl, rfl, rfl, rfl, rfl, rfl, rfl, rfl, rfl, rfl, rfl, trivial⟩ rfl ?_
       ·rintro ⟨q, m⟩ ⟨hqs, hqf⟩
        simp only at hqs hqf
        have hqle : q ≤ s := by
         have : q &&& s ≤ s := Nat.and_le_right
         omega
        have hq128 : q < 128 := by omega
        have hq256 : q < 256 := by omega
        have hq6 : q < 1000000 := by omega
        have hsd := sdiff_le s q
        have hsd128 : sdiff s q < 128 := by omega
        have e0 : partF R r (doneL R r) (allL R r) s m q = partF R r (doneL R r) (allL R r) s m q := rfl
        conv at e0 => rhs; unfold partF
        obtain ⟨m', hm'⟩ : ∃ m', m' = partF R r (doneL R r) (allL R r) s m q := ⟨_, rfl⟩
        have hnm : (nx.set s m).length = 128 := by simp [hnl]
        have hgs := times_get hnm hs128
        have hgv : (nx.set s m).getD s 0 = m := by
         rw [List.getD_eq_getElem?_getD, List.getElem?_set_self (by omega)]; rfl
        rw [hgv] at hgs
        have hga := times_get hall hsd128
        have hgd : (((doneL R r).drop q).map (PV.int .i64))[0]? = some (.int .i64 ((doneL R r).getD q 0)) := by
         have : q < (doneL R r).length := by omega
         simp [this]
        have hnm1 : (s + 1 ≤ 128) = True := eq_true (by omega)
        have hset2 : ∀ x : Int, (nx.set s m).set s x = nx.set s x := fun x => by rw [List.set_set]
        ((repeat refine Ws ?_);refine W_block ?_)
        (repeat refine Ws ?_)
        refine W_drawE T_ok [] (by kernel_rfl) (by kernel_rfl) ?_
        intro Kn hKn
        generalize hi : mkPlan _ = infs
        cbv at hi
        subst hi
        ((simp (maxSteps := 1000000) only [VL,VM,↓VG,reduceIte,reduceCtorEq,zA,zB,zC,zD,zE,zF,zG,zH,zI,zJ, c_su, hq256, hs256, g1, ry_m hR hr3, hr3, u8_and, hmu2, u8_eql]); rw [hKn];clear hKn Kn;simp only [QV,reduceIte,reduceCtorEq,Nat.reduceEqDiff])
        generalize hb : decide (q &&& mustAt R r = s &&& mustAt R r) = b
        refine W_thenC [(1, .ptr M.H.length 0), (3, .ptr p3 0), (5, vi r), (6, .ip ((doneL R r).map (PV.int .i64))), (7, .ptr H1.length 0), (8, vi s), (9, vi q), (25, vi R.y.ramps.length), (26, vi r), (38, vi ((2 ^ n : Nat) : Int)), (39, vi s)] ⟨H1 ++ [.obj ((nx.set s m').map vi)], M.lg⟩ ?_ ?_
        ·cases b
         ·rw [if_neg (of_decide_eq_false hb)] at e0
          ((repeat refine Ws ?_);refine Wf (by first|rfl|simp only [EV,zF,reduceIte]) ?_)
          (((repeat refine Ws ?_);refine W_skip ?_); simp only [QV,reduceIte,reduceCtorEq,Nat.reduceEqDiff])
          exact ⟨trivial, trivial, by rw [hm', e0], rfl, rfl, rfl, rfl, rfl, rfl, rfl, rfl, rfl, rfl, rfl, trivial⟩
         ·rw [if_pos (of_decide_eq_true hb)] at e0
          ((repeat refine Ws ?_);refine Wt (by first|rfl|simp only [EV,zF,reduceIte]) ?_)
          (repeat refine Ws ?_)
          refine W_drawE T_ok [] (by kernel_rfl) (by kernel_rfl) ?_
          intro Kn hKn
          generalize hi : mkPlan _ = infs
          cbv at hi
          subst hi
          ((simp (maxSteps := 1000000) only [VL,VM,↓VG,reduceIte,reduceCtorEq,zA,zB,zC,zD,zE,zF,zG,zH,zI,zJ, hs128, hq128, hsd128, hgs, hgd, g3, i_andNot, hs6, hq6, hga, hnm, hnm1]); rw [hKn];clear hKn Kn;simp only [QV,reduceIte,reduceCtorEq,Nat.reduceEqDiff])
          rw [splice_vi (by omega), hset2]
          exact ⟨trivial, trivial, by rw [hm', e0], rfl, rfl, rfl, rfl, rfl, rfl, rfl, rfl, rfl, rfl, rfl, trivial⟩
        ((repeat refine Ws ?_);refine W_regionE T_ok ?_; intro Kn hKn)
        rcases Nat.eq_zero_or_pos q with h0 | h0
        ·have h0' : ((q : Int) = 0) = True := eq_true (by omega)
         have hmv : m' = mv := by
          rw [← hqf, h0, subsTo_zero, List.foldl_cons, List.foldl_nil, hm', h0]
         ((simp (maxSteps := 1000000) only [VL,VM,↓VG,reduceIte,reduceCtorEq,zA,zB,zC,zD,zE,zF,zG,zH,zI,zJ, h0']); rw [hKn];clear hKn Kn;simp only [QV,reduceIte,reduceCtorEq,Nat.reduceEqDiff])
         ((repeat refine Ws ?_);refine Wt (by first|rfl|simp only [EV,zF,reduceIte]) ?_)
         (((repeat refine Ws ?_);refine W_exit ?_); simp only [QV,reduceIte,reduceCtorEq,Nat.reduceEqDiff])
         ((repeat refine Ws ?_);refine W_regionE T_ok ?_; intro Kn hKn)
         ((simp (maxSteps := 1000000) only [VL,VM,↓VG,reduceIte,reduceCtorEq,zA,zB,zC,zD,zE,zF,zG,zH,zI,zJ, l1]); rw [hKn];clear hKn Kn;simp only [QV,reduceIte,reduceCtorEq,Nat.reduceEqDiff])
         refine LoopK.mk (s + 1) (by omega) (by omega) ⟨rfl, rfl, rfl, rfl, rfl, rfl, rfl, rfl, rfl, trivial⟩ ?_
         rw [hns, hmv]
        ·have h0' : ((q : Int) = 0) = False := eq_false (by omega)
         have hq1 : (q : Int) - 1 = ((q - 1 : Nat) : Int) := by omega
         have hqb : -9223372036854775808 ≤ ((q - 1 : Nat) : Int) ∧ ((q - 1 : Nat) : Int) < 9223372036854775808 := by omega
         have hq16 : q - 1 < 1000000 := by omega
         have hnx2 := subsTo_next hs128 hq128 hqs h0
         rw [hnx2, List.foldl_cons, ← hm'] at hqf
         have hlt4 : (q - 1) &&& s < q := by
          have : (q - 1) &&& s ≤ q - 1 := Nat.and_le_left
          omega
         ((simp (maxSteps := 1000000) only [VL,VM,↓VG,reduceIte,reduceCtorEq,zA,zB,zC,zD,zE,zF,zG,zH,zI,zJ, h0']); rw [hKn];clear hKn Kn;simp only [QV,reduceIte,reduceCtorEq,Nat.reduceEqDiff])
         ((repeat refine Ws ?_);refine Wf (by first|rfl|simp only [EV,zF,reduceIte]) ?_)
         (((repeat refine Ws ?_);refine W_skip ?_); simp only [QV,reduceIte,reduceCtorEq,Nat.reduceEqDiff])
         ((repeat refine Ws ?_);refine W_regionE T_ok ?_; intro Kn hKn)
         ((simp (maxSteps := 1000000) only [VL,VM,↓VG,reduceIte,reduceCtorEq,zA,zB,zC,zD,zE,zF,zG,zH,zI,zJ, hq1, hqb, i_and, hq16, hs6]); rw [hKn];clear hKn Kn;simp only [QV,reduceIte,reduceCtorEq,Nat.reduceEqDiff])
         exact LoopK.mk ((q - 1) &&& s, m') hlt4 ⟨by rw [Nat.and_assoc, Nat.and_self], hqf⟩ ⟨rfl, rfl, rfl, rfl, rfl, rfl, rfl, rfl, rfl, rfl, rfl, trivial⟩ rfl
      ·have l2 : ((s : Int) < ((2 ^ n : Nat) : Int)) = False := eq_false (by omega)
       obtain rfl : s = 2 ^ n := by omega
       ((simp (maxSteps := 1000000) only [VL,VM,↓VG,reduceIte,reduceCtorEq,zA,zB,zC,zD,zE,zF,zG,zH,zI,zJ, l2]); rw [hKn];clear hKn Kn;simp only [QV,reduceIte,reduceCtorEq,Nat.reduceEqDiff])
       ((repeat refine Ws ?_);refine Wf (by first|rfl|simp only [EV,zF,reduceIte]) ?_)
       (((repeat refine Ws ?_);refine W_exit ?_); simp only [QV,reduceIte,reduceCtorEq,Nat.reduceEqDiff])
       ((repeat refine Ws ?_);refine W_regionE T_ok ?_; intro Kn hKn)
       ((simp (maxSteps := 1000000) only [VL,VM,↓VG,reduceIte,reduceCtorEq,zA,zB,zC,zD,zE,zF,zG,zH,zI,zJ]); rw [hKn];clear hKn Kn;simp only [QV,reduceIte,reduceCtorEq,Nat.reduceEqDiff])
       ((repeat refine Ws ?_);refine W_regionE T_ok ?_; intro Kn hKn)
       ((simp (maxSteps := 1000000) only [VL,VM,↓VG,reduceIte,reduceCtorEq,zA,zB,zC,zD,zE,zF,zG,zH,zI,zJ, j1]); rw [hKn];clear hKn Kn;simp only [QV,reduceIte,reduceCtorEq,Nat.reduceEqDiff])
       refine LoopK.mk ⟨r + 1, H1.length, J ++ [.obj ((allL R (r + 1)).map vi)]⟩ (by simp; omega) ⟨by simp; omega, by rw [hH1]; simp, ?_⟩ ⟨rfl, rfl, rfl, rfl, trivial⟩ ?_
       ·show (M.H ++ .obj (ryC R) :: (J ++ [.obj ((allL R (r + 1)).map vi)]))[H1.length]? = _
        rw [show M.H ++ VObj.obj (ryC R) :: (J ++ [.obj ((allL R (r + 1)).map vi)]) = H1 ++ [.obj ((allL R (r + 1)).map vi)] by rw [hH1]; simp, hget0]
        rfl
       ·rw [hfin rfl, hH1, List.append_assoc]; rfl
    ·have j2 : ((r : Int) < (R.y.ramps.length : Int)) = False := eq_false (by omega)
     obtain rfl : r = R.y.ramps.length := by omega
     ((simp (maxSteps := 1000000) only [VL,VM,↓VG,reduceIte,reduceCtorEq,zA,zB,zC,zD,zE,zF,zG,zH,zI,zJ, j2]); rw [hKn];clear hKn Kn;simp only [QV,reduceIte,reduceCtorEq,Nat.reduceEqDiff])
     ((repeat refine Ws ?_);refine Wf (by first|rfl|simp only [EV,zF,reduceIte]) ?_)
     (((repeat refine Ws ?_);refine W_exit ?_); simp only [QV,reduceIte,reduceCtorEq,Nat.reduceEqDiff])
     ((repeat refine Ws ?_);refine W_regionE T_ok ?_; intro Kn hKn)
     ((simp (maxSteps := 1000000) only [VL,VM,↓VG,reduceIte,reduceCtorEq,zA,zB,zC,zD,zE,zF,zG,zH,zI,zJ]); rw [hKn];clear hKn Kn;simp only [QV,reduceIte,reduceCtorEq,Nat.reduceEqDiff])
     (repeat refine Ws ?_)
     refine W_ret ⟨.inr rfl, rfl, p3, _, rfl, hp3, rfl, rfl, ?_⟩
     rw [soonestL, List.map_map]
     exact hg3
end Go.Proofs.YtkipednlefbfpaaDoor.Vm

/- When sets of carts can be away, plain: what the numbers mean. -/
namespace Go.Proofs.YtkipednlefbfpaaDoor
/-! ### the numbers of one ramp -/
def stepV (R : Ry) (r s : Nat) (t : List Int) (m : Int) (c : Nat) : Int :=
 if s.testBit c && mayB R c r then
  match comeF R r c t s with
  | none => m
  | some f => if f + (ctAt R.y c).takes.hi ≤ limF R r c then min m (f + (ctAt R.y c).takes.hi) else m
 else m
theorem sdiff_self_lt {s c : Nat} (h : s.testBit c = true) : sdiff s (2 ^ c) < s := by
 have h1 := sdiff_le s (2 ^ c)
 rcases Nat.lt_or_ge (sdiff s (2 ^ c)) s with h2 | h2
 ·exact h2
 ·have e : sdiff s (2 ^ c) = s := by omega
  have := sdiff_bit s (2 ^ c) c
  rw [e, h, Nat.testBit_two_pow] at this
  simp at this
theorem getD_set {t : List Int} {i j : Nat} {x : Int} (h : i < t.length) : (t.set i x).getD j 0 = if i = j then x else t.getD j 0 := by
 rw [List.getD_eq_getElem?_getD, List.getD_eq_getElem?_getD, List.getElem?_set]
 by_cases e : i = j
 ·subst e; simp [h]
 ·simp [e]
theorem comeF_congr {R : Ry} {r c s : Nat} {t t' : List Int} (h : t.getD (sdiff s (2 ^ c)) 0 = t'.getD (sdiff s (2 ^ c)) 0) : comeF R r c t s = comeF R r c t' s := by
 unfold comeF lastF
 rw [h]
theorem row_fold {R : Ry} {r s : Nat} {t0 : List Int} (hs : s < t0.length) : ∀ (l : List Nat) (t : List Int), t.length = t0.length → (∀ i, i ≠ s → t.getD i 0 = t0.getD i 0) →
  (l.foldl (stepD R r s) t).getD s 0 = l.foldl (stepV R r s t0) (t.getD s 0) ∧ ∀ i, i ≠ s → (l.foldl (stepD R r s) t).getD i 0 = t0.getD i 0
 | [], t, _, h => ⟨rfl, h⟩
 | c :: l, t, hl, h => by
  rw [List.foldl_cons, List.foldl_cons]
  have key : (stepD R r s t c).getD s 0 = stepV R r s t0 (t.getD s 0) c ∧ ∀ i, i ≠ s → (stepD R r s t c).getD i 0 = t0.getD i 0 := by
   unfold stepD stepV
   cases hb : s.testBit c && mayB R c r with
   | false => exact ⟨rfl, h⟩
   | true =>
    simp only [Bool.and_eq_true] at hb
    have hlt := sdiff_self_lt hb.1
    rw [if_pos rfl, if_pos rfl, comeF_congr (h (sdiff s (2 ^ c)) (by omega))]
    cases comeF R r c t0 s with
    | none => exact ⟨rfl, h⟩
    | some f =>
     simp only
     by_cases hlim : f + (ctAt R.y c).takes.hi ≤ limF R r c
     ·rw [if_pos hlim, if_pos hlim]
      refine ⟨by rw [getD_set (by omega), if_pos rfl], fun i hi => ?_⟩
      rw [getD_set (by omega), if_neg (fun e => hi e.symm)]
      exact h i hi
     ·rw [if_neg hlim, if_neg hlim]
      exact ⟨rfl, h⟩
  have ih := row_fold (R := R) (r := r) hs l (stepD R r s t c) (by rw [stepD_len]; exact hl) key.2
  rw [key.1] at ih
  exact ih
theorem rowD_get {R : Ry} {r s : Nat} {t : List Int} (hs : s < t.length) : (rowD R r t s).getD s 0 = (List.range R.y.carts.length).foldl (stepV R r s t) never ∧ ∀ i, i ≠ s → (rowD R r t s).getD i 0 = t.getD i 0 := by
 unfold rowD
 have h := row_fold (R := R) (r := r) hs (List.range R.y.carts.length) (t.set s never) (by simp) (fun i hi => by rw [getD_set hs, if_neg (fun e => hi e.symm)])
 rw [getD_set hs, if_pos rfl] at h
 exact h
def doneTo (R : Ry) (r k : Nat) : List Int := (List.range' 1 (k - 1)).foldl (rowD R r) (List.replicate 128 0)
theorem doneTo_len (R : Ry) (r k : Nat) : (doneTo R r k).length = 128 := by
 unfold doneTo
 rw [foldD_len]; simp
theorem doneTo_succ {R : Ry} {r k : Nat} (h : 1 ≤ k) : doneTo R r (k + 1) = rowD R r (doneTo R r k) k := by
 unfold doneTo
 rw [show k + 1 - 1 = (k - 1) + 1 by omega, List.range'_1_concat, List.foldl_append, show 1 + (k - 1) = k by omega]
 rfl
theorem doneTo_stay {R : Ry} {r i : Nat} : ∀ {k k' : Nat}, 1 ≤ k → i < k → k ≤ k' → k' ≤ 128 → (doneTo R r k').getD i 0 = (doneTo R r k).getD i 0 := by
 intro k k' h1 hi hk hk'
 obtain ⟨d, rfl⟩ : ∃ d, k' = k + d := ⟨k' - k, by omega⟩
 induction d with
 | zero => rfl
 | succ d ih =>
  rw [← Nat.add_assoc, doneTo_succ (by omega), (rowD_get (by rw [doneTo_len]; omega)).2 i (by omega)]
  exact ih (by omega) (by omega)
theorem doneL_rec {R : Ry} {r s : Nat} (hm : R.y.carts.length ≤ 7) (h0 : 1 ≤ s) (hs : s < 2 ^ R.y.carts.length) : (doneL R r).getD s 0 = (List.range R.y.carts.length).foldl (stepV R r s (doneL R r)) never := by
 have h2n : 2 ^ R.y.carts.length ≤ 128 := Nat.pow_le_pow_right (n := 2) (by decide) hm
 have hd : doneL R r = doneTo R r (2 ^ R.y.carts.length) := rfl
 rw [hd, doneTo_stay (k := s + 1) (by omega) (by omega) (by omega) h2n, doneTo_succ h0, (rowD_get (by rw [doneTo_len]; omega)).1]
 have key : ∀ (l : List Nat) (m : Int), l.foldl (stepV R r s (doneTo R r s)) m = l.foldl (stepV R r s (doneTo R r (2 ^ R.y.carts.length))) m := by
  intro l
  induction l with
  | nil => intro m; rfl
  | cons c l ih =>
   intro m
   rw [List.foldl_cons, List.foldl_cons, ih]
   congr 1
   unfold stepV
   cases hb : s.testBit c with
   | false => rfl
   | true =>
    have hlt := sdiff_self_lt hb
    rw [comeF_congr (t' := doneTo R r (2 ^ R.y.carts.length)) (doneTo_stay (by omega) hlt (by omega) h2n).symm]
 rw [key]
theorem doneL_zero (R : Ry) (r : Nat) (hm : R.y.carts.length ≤ 7) : (doneL R r).getD 0 0 = 0 := by
 have h2n : 2 ^ R.y.carts.length ≤ 128 := Nat.pow_le_pow_right (n := 2) (by decide) hm
 have h2p : 1 ≤ 2 ^ R.y.carts.length := Nat.one_le_two_pow
 have hd : doneL R r = doneTo R r (2 ^ R.y.carts.length) := rfl
 rw [hd, doneTo_stay (k := 1) (by omega) (by omega) h2p h2n]
 simp [doneTo]
theorem fold_le {α : Type} {f : Int → α → Int} {g : α → Option Int} (hf : ∀ m a, f m a = match g a with
  | none => m
  | some x => min m x) {V : Int} : ∀ (l : List α) (m : Int), l.foldl f m ≤ V ↔ m ≤ V ∨ ∃ a ∈ l, ∃ x, g a = some x ∧ x ≤ V
 | [], m => by simp
 | a :: l, m => by
  rw [List.foldl_cons, fold_le hf l (f m a), hf]
  constructor
  ·rintro (h | ⟨b, hb, x, hx, hv⟩)
   ·cases hg : g a with
    | none => rw [hg] at h; exact .inl h
    | some x =>
     rw [hg] at h
     simp only at h
     by_cases hm : m ≤ V
     ·exact .inl hm
     ·exact .inr ⟨a, by simp, x, hg, by omega⟩
   ·exact .inr ⟨b, by simp [hb], x, hx, hv⟩
  ·rintro (h | ⟨b, hb, x, hx, hv⟩)
   ·left
    cases hg : g a with
    | none => exact h
    | some x => simp only; omega
   ·rcases List.mem_cons.1 hb with rfl | hb
    ·left
     rw [hx]
     simp only; omega
    ·exact .inr ⟨b, hb, x, hx, hv⟩
structure OnR (R : Ry) (r s : Nat) (V : Int) (g : Nat → Int) : Prop where
 may : ∀ c, s.testBit c = true → mayB R c r = true
 f1 : ∀ c, s.testBit c = true → (ctAt R.y c).from_ ≤ g c
 f2 : ∀ c, s.testBit c = true → (rAt R r).open_ ≤ g c
 f3 : ∀ c, s.testBit c = true → g c + (ctAt R.y c).takes.hi ≤ limF R r c
 v : ∀ c, s.testBit c = true → g c + (ctAt R.y c).takes.hi ≤ V
 mu : ∀ c, s.testBit c = true → (mustAt R r).testBit c = true → g c = frmAt R c
 sep : ∀ c d, s.testBit c = true → s.testBit d = true → c ≠ d → g c + (ctAt R.y c).takes.hi + R.y.sweep ≤ g d ∨ g d + (ctAt R.y d).takes.hi + R.y.sweep ≤ g c
theorem last_bit {s : Nat} (g : Nat → Int) (n : Nat) (hs : s < 2 ^ n) (h0 : 0 < s) : ∃ c, s.testBit c = true ∧ c < n ∧ ∀ d, s.testBit d = true → g d ≤ g c := by
 have hex : ∃ c, s.testBit c = true := Nat.exists_testBit_of_ne_zero (by omega)
 have hbd : ∀ c, s.testBit c = true → c < n := fun c hc => by
  rcases Nat.lt_or_ge c n with h | h
  ·exact h
  ·have : s.testBit c = false := Nat.testBit_lt_two_pow (Nat.lt_of_lt_of_le hs (Nat.pow_le_pow_right (by decide) h))
   rw [this] at hc; cases hc
 have key : ∀ k, (∃ c, c < k ∧ s.testBit c = true) → ∃ c, c < k ∧ s.testBit c = true ∧ ∀ d, d < k → s.testBit d = true → g d ≤ g c := by
  intro k
  induction k with
  | zero => intro ⟨c, hc, _⟩; omega
  | succ k ih =>
   intro ⟨c, hc, hb⟩
   by_cases hl : ∃ c, c < k ∧ s.testBit c = true
   ·obtain ⟨e, he, heb, hem⟩ := ih hl
    by_cases hcmp : s.testBit k = true ∧ g e < g k
    ·refine ⟨k, by omega, hcmp.1, fun d hd hdb => ?_⟩
     rcases Nat.lt_or_ge d k with h1 | h1
     ·have := hem d h1 hdb; omega
     ·rw [show d = k by omega]; exact Int.le_refl _
    ·refine ⟨e, by omega, heb, fun d hd hdb => ?_⟩
     rcases Nat.lt_or_ge d k with h1 | h1
     ·exact hem d h1 hdb
     ·have hdk : d = k := by omega
      subst hdk
      have : ¬ g e < g d := fun h => hcmp ⟨hdb, h⟩
      omega
   ·have hck : c = k := by
     rcases Nat.lt_or_ge c k with h1 | h1
     ·exact absurd ⟨c, h1, hb⟩ hl
     ·omega
    subst hck
    refine ⟨c, by omega, hb, fun d hd hdb => ?_⟩
    rcases Nat.lt_or_ge d c with h1 | h1
    ·exact absurd ⟨d, h1, hdb⟩ hl
    ·rw [show d = c by omega]; exact Int.le_refl _
 obtain ⟨c, hc⟩ := hex
 obtain ⟨e, h1, h2, h3⟩ := key n ⟨c, hbd c hc, hc⟩
 exact ⟨e, h2, h1, fun d hd => h3 d (hbd d hd) hd⟩
theorem done_iff {R : Ry} (hR : RyOk R) {r : Nat} (hr : r < R.y.ramps.length) : ∀ (s : Nat) (V : Int), 0 < s → s < 2 ^ R.y.carts.length → V < never → ((doneL R r).getD s 0 ≤ V ↔ ∃ g, OnR R r s V g) := by
 intro s
 induction s using Nat.strongRecOn with
 | ind s ih =>
 intro V h0 hs hV
 have hm := hR.y.m1
 have hsw := hR.y.s0
 have hbd : ∀ c, s.testBit c = true → c < R.y.carts.length := fun c hc => by
  rcases Nat.lt_or_ge c R.y.carts.length with h | h
  ·exact h
  ·have : s.testBit c = false := Nat.testBit_lt_two_pow (Nat.lt_of_lt_of_le hs (Nat.pow_le_pow_right (by decide) h))
   rw [this] at hc; cases hc
 have hcv : ∀ c, s.testBit c = true → 1 ≤ (ctAt R.y c).takes.hi := fun c hc => by
  have := hR.y.ct _ (ctAt_mem (hbd c hc))
  have a := this.l0
  have b := this.lh
  omega
 have hsdb : ∀ c d, (sdiff s (2 ^ c)).testBit d = true ↔ s.testBit d = true ∧ d ≠ c := fun c d => by
  rw [sdiff_bit, Nat.testBit_two_pow]
  by_cases e : c = d
  ·subst e; simp
  ·simp [e, Ne.symm e]
 rw [doneL_rec hm h0 hs, fold_le (g := fun c => if s.testBit c && mayB R c r then (match comeF R r c (doneL R r) s with
  | none => none
  | some f => if f + (ctAt R.y c).takes.hi ≤ limF R r c then some (f + (ctAt R.y c).takes.hi) else none) else none) (fun m c => by
   unfold stepV
   split
   ·cases comeF R r c (doneL R r) s with
    | none => rfl
    | some f =>
     simp only
     split <;> rfl
   ·rfl)]
 constructor
 ·rintro (h | ⟨c, _, x, hx, hxV⟩)
  ·omega
  ·split at hx
   case isFalse => cases hx
   case isTrue hb =>
   simp only [Bool.and_eq_true] at hb
   obtain ⟨hbc, hmay⟩ := hb
   split at hx
   ·cases hx
   ·rename_i f hf
    split at hx
    case isFalse => cases hx
    case isTrue hlim =>
    cases hx
    -- f is at least lastF
    have hlf : lastF R r c (doneL R r) s ≤ f ∧ ((mustAt R r).testBit c = true → f = frmAt R c) := by
     unfold comeF at hf
     split at hf
     ·rename_i hmu
      split at hf
      ·cases hf
      ·cases hf
       exact ⟨by omega, fun _ => rfl⟩
     ·rename_i hmu
      cases hf
      exact ⟨Int.le_refl _, fun h => absurd h hmu⟩
    obtain ⟨hlf, hmu⟩ := hlf
    have hl0 : (ctAt R.y c).from_ ≤ f ∧ (rAt R r).open_ ≤ f := by
     unfold lastF at hlf
     simp only at hlf
     split at hlf <;> omega
    by_cases hb0 : 0 < sdiff s (2 ^ c)
    ·have hDb : (doneL R r).getD (sdiff s (2 ^ c)) 0 ≤ f - R.y.sweep := by
      unfold lastF at hlf
      simp only at hlf
      rw [if_pos hb0] at hlf
      omega
     have hfV : f - R.y.sweep < never := by
      have := hcv c hbc
      omega
     obtain ⟨g, hg⟩ := (ih _ (sdiff_self_lt hbc) (f - R.y.sweep) hb0 (Nat.lt_of_le_of_lt (sdiff_le _ _) hs) hfV).1 hDb
     have hgc : ∀ d, d ≠ c → (if d = c then f else g d) = g d := fun d hd => if_neg hd
     have hgcc : (if c = c then f else g c) = f := if_pos rfl
     refine ⟨fun d => if d = c then f else g d, fun d hd => ?_, fun d hd => ?_, fun d hd => ?_, fun d hd => ?_, fun d hd => ?_, fun d hd hdm => ?_, fun d e hd he hne => ?_⟩
     ·by_cases hdc : d = c
      ·subst hdc; exact hmay
      ·exact hg.may d ((hsdb c d).2 ⟨hd, hdc⟩)
     ·by_cases hdc : d = c
      ·subst hdc; simp only [if_true]; exact hl0.1
      ·simp only [hgc d hdc]; exact hg.f1 d ((hsdb c d).2 ⟨hd, hdc⟩)
     ·by_cases hdc : d = c
      ·subst hdc; simp only [if_true]; exact hl0.2
      ·simp only [hgc d hdc]; exact hg.f2 d ((hsdb c d).2 ⟨hd, hdc⟩)
     ·by_cases hdc : d = c
      ·subst hdc; simp only [if_true]; exact hlim
      ·simp only [hgc d hdc]; exact hg.f3 d ((hsdb c d).2 ⟨hd, hdc⟩)
     ·by_cases hdc : d = c
      ·subst hdc; simp only [if_true]; exact hxV
      ·simp only [hgc d hdc]
       have := hg.v d ((hsdb c d).2 ⟨hd, hdc⟩)
       have := hcv c hbc
       omega
     ·by_cases hdc : d = c
      ·subst hdc; simp only [if_true]; exact hmu hdm
      ·simp only [hgc d hdc]; exact hg.mu d ((hsdb c d).2 ⟨hd, hdc⟩) hdm
     ·by_cases hdc : d = c
      ·subst hdc
       have hed : e ≠ d := fun h => hne h.symm
       simp only [if_true, hgc e hed]
       have := hg.v e ((hsdb d e).2 ⟨he, hed⟩)
       right; omega
      ·by_cases hec : e = c
       ·subst hec
        simp only [if_true, hgc d hdc]
        have := hg.v d ((hsdb e d).2 ⟨hd, hdc⟩)
        left; omega
       ·simp only [hgc d hdc, hgc e hec]
        exact hg.sep d e ((hsdb c d).2 ⟨hd, hdc⟩) ((hsdb c e).2 ⟨he, hec⟩) hne
    ·have hs1 : ∀ d, s.testBit d = true → d = c := fun d hd => by
      rcases Nat.decEq d c with hne | he
      ·have := (hsdb c d).2 ⟨hd, hne⟩
       rw [show sdiff s (2 ^ c) = 0 by omega] at this
       simp at this
      ·exact he
     refine ⟨fun _ => f, fun d hd => ?_, fun d hd => ?_, fun d hd => ?_, fun d hd => ?_, fun d hd => ?_, fun d hd hdm => ?_, fun d e hd he hne => ?_⟩
     ·rw [hs1 d hd]; exact hmay
     ·rw [hs1 d hd]; exact hl0.1
     ·exact hl0.2
     ·rw [hs1 d hd]; exact hlim
     ·rw [hs1 d hd]; exact hxV
     ·rw [hs1 d hd] at hdm ⊢; exact hmu hdm
     ·rw [hs1 d hd, hs1 e he] at hne; exact absurd rfl hne
 ·rintro ⟨g, hg⟩
  right
  obtain ⟨c, hbc, hcn, hmax⟩ := last_bit g R.y.carts.length hs h0
  refine ⟨c, List.mem_range.2 hcn, ?_⟩
  have hmay := hg.may c hbc
  rw [hbc, hmay]
  simp only [Bool.and_self, if_true]
  have hlf : lastF R r c (doneL R r) s ≤ g c := by
   have a := hg.f1 c hbc
   have b := hg.f2 c hbc
   unfold lastF
   simp only
   by_cases hb0 : 0 < sdiff s (2 ^ c)
   ·rw [if_pos hb0]
    have hDb : (doneL R r).getD (sdiff s (2 ^ c)) 0 ≤ g c - R.y.sweep := by
     have hfV : g c - R.y.sweep < never := by
      have := hcv c hbc
      have := hg.v c hbc
      omega
     refine (ih _ (sdiff_self_lt hbc) (g c - R.y.sweep) hb0 (Nat.lt_of_le_of_lt (sdiff_le _ _) hs) hfV).2 ⟨g, fun d hd => hg.may d ((hsdb c d).1 hd).1, fun d hd => hg.f1 d ((hsdb c d).1 hd).1, fun d hd => hg.f2 d ((hsdb c d).1 hd).1, fun d hd => hg.f3 d ((hsdb c d).1 hd).1, fun d hd => ?_, fun d hd => hg.mu d ((hsdb c d).1 hd).1, fun d e hd he => hg.sep d e ((hsdb c d).1 hd).1 ((hsdb c e).1 he).1⟩
     obtain ⟨hd1, hd2⟩ := (hsdb c d).1 hd
     have h1 := hmax d hd1
     have h2 := hcv c hbc
     rcases hg.sep d c hd1 hbc hd2 with h3 | h3
     ·omega
     ·omega
    omega
   ·rw [if_neg hb0]; omega
  have hlim := hg.f3 c hbc
  have hv := hg.v c hbc
  unfold comeF
  by_cases hmu : (mustAt R r).testBit c = true
  ·rw [if_pos hmu]
   have hfe := hg.mu c hbc hmu
   rw [if_neg (by omega)]
   simp only
   rw [if_pos (by omega)]
   exact ⟨_, rfl, by omega⟩
  ·rw [if_neg hmu]
   simp only
   rw [if_pos (by omega)]
   exact ⟨_, rfl, by omega⟩
end Go.Proofs.YtkipednlefbfpaaDoor
