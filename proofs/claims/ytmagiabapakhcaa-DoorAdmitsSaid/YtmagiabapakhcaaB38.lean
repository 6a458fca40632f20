/- A part of the proofs about the chapter of the doors; it states no condition of its own. -/
import Derived.Test.YtmagiabapakhcaaB27
import Derived.Test.YtmagiabapakhcaaB29
import Derived.Test.YtmagiabapakhcaaB34
import Derived.Test.YtmagiabapakhcaaB35
import Derived.Test.YtmagiabapakhcaaB37
set_option linter.unusedVariables false
set_option linter.unusedSimpArgs false
open Int renaming reduceLE → zA, reduceLT → zB, reduceToNat → zC, reduceNeg → zD
open Nat renaming reduceLT → zE, reduceEqDiff → zF, reduceAdd → zG, reduceSub → zH, reduceMul → zI, reduceLeDiff → zJ
/- The reference: who may be inside, on values. (Vm) -/
-- TABLE TE
namespace Go.Proofs.Ytmagiabapakhcaa.Vm
open Go Go.Proofs
theorem chg_take {cs : List Co} {i : Nat} {c : Co} (hx : cs[i]? = some c) (t : Int) : chg (cs.take (i + 1)) t = if c.tick = t then addS (chg (cs.take i) t) (valS (some c)) else chg (cs.take i) t := by
 rw [List.take_add_one, hx]
 exact chg_snoc _ _ _
theorem chg_bdT {h : Ho} (V : HV h) (t : Int) : ∀ i : Nat, i ≤ h.counts.length → -10000 * (i : Int) ≤ (chg (h.counts.take i) t).lo ∧ (chg (h.counts.take i) t).lo ≤ 10000 * (i : Int) ∧ -10000 * (i : Int) ≤ (chg (h.counts.take i) t).hi ∧ (chg (h.counts.take i) t).hi ≤ 10000 * (i : Int)
 | 0, _ => by simp [chg]
 | i + 1, hi => by
  have h1 := chg_bdT V t i (by omega)
  have hx : h.counts[i]? = some (h.counts[i]'(by omega)) := List.getElem?_eq_getElem (by omega)
  have hv := V.counts _ (List.getElem_mem (l := h.counts) (n := i) (by omega))
  generalize h.counts[i]'(by omega) = c at hx hv
  obtain ⟨i0, i1, i2⟩ := hv.i
  obtain ⟨o0, o1, o2⟩ := hv.o
  rw [chg_take hx]
  push_cast
  split
  ·simp only [addS, valS]
   omega
  ·omega
set_option maxHeartbeats 1000000 in
set_option maxRecDepth 8000 in
theorem change_r (h : Ho) (V : HV h) (t : Int) (M : Mem) : VC Try.prog 88 [houseV h, vi t] M (fun r M' => M' = M ∧ r = spV (chg h.counts t)) := by
 have c1 := V.c1
 refine VC_own' TE_ok (f := 88) (fn := Try.f88) (by kernel_rfl) rfl Try.ntmps88 (by rfl) (by rfl) ?_
 ((repeat refine Ws ?_);refine W_region0 TE_ok ?_)
 simp (maxSteps := 1000000) only [xE_ty, xE_fn, xE_bin, xE_oi, xE_oc, xE_ok, VL,VM,↓VG,reduceIte,reduceCtorEq,zA,zB,zC,zD,zE,zF,zG,zH,zI,zJ]
 ((repeat refine Ws ?_);refine W_region0 TE_ok ?_)
 simp (maxSteps := 1000000) only [xE_ty, xE_fn, xE_bin, xE_oi, xE_oc, xE_ok, VL,VM,↓VG,reduceIte,reduceCtorEq,zA,zB,zC,zD,zE,zF,zG,zH,zI,zJ]
 ((repeat refine Ws ?_);refine W_region0 TE_ok ?_)
 simp (maxSteps := 1000000) only [xE_ty, xE_fn, xE_bin, xE_oi, xE_oc, xE_ok, VL,VM,↓VG,reduceIte,reduceCtorEq,zA,zB,zC,zD,zE,zF,zG,zH,zI,zJ]
 ((repeat refine Ws ?_);refine W_block ?_; (repeat refine Ws ?_)); refine W_loopS (fun s : ChkSt => [(0, houseV h), (1, vi t), (2, .ptr M.H.length 0), (4, .ptr (M.H.length + 1) 0), (5, .ptr (M.H.length + 2) 0), (6, vi s.i)]) (fun s => ⟨M.H ++ (.obj (houseC h) :: .obj [vi 0, vi 0] :: .obj [vi (chg (h.counts.take s.i) t).lo, vi (chg (h.counts.take s.i) t).hi] :: s.junk), M.lg⟩) (fun s => h.counts.length - s.i) (fun s => s.i ≤ h.counts.length) ⟨0, []⟩ (Nat.zero_le _) ⟨rfl, rfl, rfl, rfl, rfl, rfl, trivial⟩ rfl ?_
 rintro ⟨i, junk⟩ hi
 simp only at hi
 have k1 : -9223372036854775808 ≤ (i : Int) + 1 ∧ (i : Int) + 1 < 9223372036854775808 := by omega
 ((repeat refine Ws ?_);refine W_region0 TE_ok ?_)
 rcases Nat.lt_or_ge i h.counts.length with hlt | hge
 ·have k2 : ((i : Int) < (h.counts.length : Int)) = True := eq_true (by omega)
  have hx : h.counts[i]? = some h.counts[i] := List.getElem?_eq_getElem hlt
  have hv := V.counts _ (List.getElem_mem hlt)
  generalize h.counts[i] = c at hx hv
  have hx' := map_at (f := coP) hx
  have hst := chg_take hx t
  have hb := chg_bdT V t i hi
  obtain ⟨i0, i1, i2⟩ := hv.i
  obtain ⟨o0, o1, o2⟩ := hv.o
  generalize chg (h.counts.take i) t = z at hst hb ⊢
  have q1 : -9223372036854775808 ≤ z.lo + c.i.lo ∧ z.lo + c.i.lo < 9223372036854775808 := by omega
  have q2 : -9223372036854775808 ≤ z.lo + c.i.lo - c.o.hi ∧ z.lo + c.i.lo - c.o.hi < 9223372036854775808 := by omega
  have q3 : -9223372036854775808 ≤ z.hi + c.i.hi ∧ z.hi + c.i.hi < 9223372036854775808 := by omega
  have q4 : -9223372036854775808 ≤ z.hi + c.i.hi - c.o.lo ∧ z.hi + c.i.hi - c.o.lo < 9223372036854775808 := by omega
  have ez : ∀ Z : Sp, Z = addS z (valS (some c)) → z.lo + c.i.lo - c.o.hi = Z.lo ∧ z.hi + c.i.hi - c.o.lo = Z.hi := fun Z hZ => by
   rw [hZ]; simp only [addS, valS]; omega
  simp (maxSteps := 1000000) only [xE_ty, xE_fn, xE_bin, xE_oi, xE_oc, xE_ok, VL,VM,↓VG,reduceIte,reduceCtorEq,zA,zB,zC,zD,zE,zF,zG,zH,zI,zJ, k2]
  ((repeat refine Ws ?_);refine Wt (by first|rfl|simp only [EV,zF,reduceIte]) ?_)
  ((repeat refine Ws ?_);refine W_skip ?_)
  simp (maxSteps := 1000000) only [xE_ty, xE_fn, xE_bin, xE_oi, xE_oc, xE_ok, VL,VM,↓VG,reduceIte,reduceCtorEq,zA,zB,zC,zD,zE,zF,zG,zH,zI,zJ]
  ((repeat refine Ws ?_);refine W_block ?_)
  ((repeat refine Ws ?_);refine W_region0 TE_ok ?_)
  simp (maxSteps := 1000000) only [xE_ty, xE_fn, xE_bin, xE_oi, xE_oc, xE_ok, VL,VM,↓VG,reduceIte,reduceCtorEq,zA,zB,zC,zD,zE,zF,zG,zH,zI,zJ, hx']
  ((repeat refine Ws ?_);refine W_region0 TE_ok ?_)
  by_cases t1 : c.tick = t
  ·have kt : (c.tick = t) = True := eq_true t1
   rw [if_pos t1] at hst
   obtain ⟨ez1, ez2⟩ := ez _ hst
   simp (maxSteps := 1000000) only [xE_ty, xE_fn, xE_bin, xE_oi, xE_oc, xE_ok, VL,VM,↓VG,reduceIte,reduceCtorEq,zA,zB,zC,zD,zE,zF,zG,zH,zI,zJ, kt]
   ((repeat refine Ws ?_);refine Wt (by first|rfl|simp only [EV,zF,reduceIte]) ?_)
   (repeat refine Ws ?_)
   refine W_drawP TE_ok [] (by kernel_rfl) (by kernel_rfl) ?_
   generalize hi : mkPlan _ = infs
   cbv at hi
   subst hi
   simp (maxSteps := 1000000) only [xE_ty, xE_fn, xE_bin, xE_oi, xE_oc, xE_ok, VL,VM,↓VG,reduceIte,reduceCtorEq,zA,zB,zC,zD,zE,zF,zG,zH,zI,zJ, q1, q2, q3, q4]
   ((repeat refine Ws ?_);refine W_region0 TE_ok ?_)
   simp (maxSteps := 1000000) only [xE_ty, xE_fn, xE_bin, xE_oi, xE_oc, xE_ok, VL,VM,↓VG,reduceIte,reduceCtorEq,zA,zB,zC,zD,zE,zF,zG,zH,zI,zJ, k1]
   refine LoopK.mk ⟨i + 1, junk ++ [.obj [vi c.tick, vi c.door, vi c.i.lo, vi c.i.hi, vi c.o.lo, vi c.o.hi]]⟩ (by simp only; omega) hlt ⟨rfl, rfl, rfl, rfl, rfl, rfl, trivial⟩ ?_
   simp only
   rw [← ez1, ← ez2]
  have kt : (c.tick = t) = False := eq_false t1
  rw [if_neg t1] at hst
  simp (maxSteps := 1000000) only [xE_ty, xE_fn, xE_bin, xE_oi, xE_oc, xE_ok, VL,VM,↓VG,reduceIte,reduceCtorEq,zA,zB,zC,zD,zE,zF,zG,zH,zI,zJ, kt]
  ((repeat refine Ws ?_);refine Wf (by first|rfl|simp only [EV,zF,reduceIte]) ?_)
  ((repeat refine Ws ?_);refine W_skip ?_)
  simp (maxSteps := 1000000) only [xE_ty, xE_fn, xE_bin, xE_oi, xE_oc, xE_ok, VL,VM,↓VG,reduceIte,reduceCtorEq,zA,zB,zC,zD,zE,zF,zG,zH,zI,zJ]
  ((repeat refine Ws ?_);refine W_region0 TE_ok ?_)
  simp (maxSteps := 1000000) only [xE_ty, xE_fn, xE_bin, xE_oi, xE_oc, xE_ok, VL,VM,↓VG,reduceIte,reduceCtorEq,zA,zB,zC,zD,zE,zF,zG,zH,zI,zJ, k1]
  refine LoopK.mk ⟨i + 1, junk ++ [.obj [vi c.tick, vi c.door, vi c.i.lo, vi c.i.hi, vi c.o.lo, vi c.o.hi]]⟩ (by simp only; omega) hlt ⟨rfl, rfl, rfl, rfl, rfl, rfl, trivial⟩ ?_
  simp only
  rw [hst]
 have k2 : ((i : Int) < (h.counts.length : Int)) = False := eq_false (by omega)
 have hi3 : i = h.counts.length := by omega
 subst hi3
 simp (maxSteps := 1000000) only [xE_ty, xE_fn, xE_bin, xE_oi, xE_oc, xE_ok, VL,VM,↓VG,reduceIte,reduceCtorEq,zA,zB,zC,zD,zE,zF,zG,zH,zI,zJ, k2]
 ((repeat refine Ws ?_);refine Wf (by first|rfl|simp only [EV,zF,reduceIte]) ?_)
 ((repeat refine Ws ?_);refine W_exit ?_)
 simp (maxSteps := 1000000) only [xE_ty, xE_fn, xE_bin, xE_oi, xE_oc, xE_ok, VL,VM,↓VG,reduceIte,reduceCtorEq,zA,zB,zC,zD,zE,zF,zG,zH,zI,zJ]
 rw [List.take_length]
 ((repeat refine Ws ?_);refine W_region0 TE_ok ?_)
 simp (maxSteps := 1000000) only [xE_ty, xE_fn, xE_bin, xE_oi, xE_oc, xE_ok, VL,VM,↓VG,reduceIte,reduceCtorEq,zA,zB,zC,zD,zE,zF,zG,zH,zI,zJ]
 (repeat refine Ws ?_)
 refine W_ret ?_
 try simp only [thenQ, blockQ]
 refine own_ret (vs := [spV (chg h.counts t)]) ?_ rfl rfl ⟨rfl, rfl⟩
 simp [Try.f88, vresL, vload, xE_ty, t_span, get_cons, hget, strip1]
 try rfl
def ovR (n0 : Nat) (first : Sp) (i tl : Nat) : VV := if i = 0 then .sf 2 [spP first] else .bf (n0 + (tl + 1)) 0 (i + 1) 2
theorem ovR_zero (n0 : Nat) (first : Sp) (tl : Nat) : ovR n0 first 0 tl = .sf 2 [spP first] := rfl
theorem ovR_succ (n0 : Nat) (first : Sp) (p tl : Nat) : ovR n0 first (p + 1) tl = .bf (n0 + (tl + 1)) 0 (p + 2) 2 := rfl
set_option maxHeartbeats 1000000 in
set_option maxRecDepth 8000 in
theorem inside_r (h : Ho) (V : HV h) (M : Mem) : VC Try.prog 66 [houseV h] M (fun r M' => M' = M ∧ r = insR h) := by
 have t0 := V.t0
 have t1 := V.t1
 obtain ⟨T', hT⟩ : ∃ T' : Nat, h.ticks = (T' : Int) := ⟨h.ticks.toNat, by omega⟩
 have hTn : h.ticks.toNat = T' := by omega
 obtain ⟨C, hC⟩ : ∃ C : Nat → Sp, C = fun t : Nat => chg h.counts (t : Int) := ⟨_, rfl⟩
 have hCb : Cb C := by rw [hC]; exact chg_Cb V
 have hCh : ∀ (t : Nat) (M : Mem), VC Try.prog 88 [houseV h, vi t] M (fun r M' => M' = M ∧ r = spV (C t)) := fun t M => by rw [hC]; exact change_r h V t M
 have hR : insR h = if bad h.first C T' then .tup [.p (.sl 0 []), vb false] else .tup [spsV (insideL h.first C T'), vb true] := by
  unfold insR insideH
  rw [hTn, ← hC]
  cases bad h.first C T' <;> rfl
 have hfb := fwd_bd V.first hCb
 refine VC_own' TE_ok (f := 66) (fn := Try.f66) (by kernel_rfl) rfl Try.ntmps66 (by rfl) (by rfl) ?_
 ((repeat refine Ws ?_);refine W_region0 TE_ok ?_)
 simp (maxSteps := 1000000) only [xE_ty, xE_fn, xE_bin, xE_oi, xE_oc, xE_ok, VL,VM,↓VG,reduceIte,reduceCtorEq,zA,zB,zC,zD,zE,zF,zG,zH,zI,zJ]
 ((repeat refine Ws ?_);refine W_region0 TE_ok ?_)
 simp (maxSteps := 1000000) only [xE_ty, xE_fn, xE_bin, xE_oi, xE_oc, xE_ok, VL,VM,↓VG,reduceIte,reduceCtorEq,zA,zB,zC,zD,zE,zF,zG,zH,zI,zJ]
 ((repeat refine Ws ?_);refine W_region0 TE_ok ?_)
 simp (maxSteps := 1000000) only [xE_ty, xE_fn, xE_bin, xE_oi, xE_oc, xE_ok, VL,VM,↓VG,reduceIte,reduceCtorEq,zA,zB,zC,zD,zE,zF,zG,zH,zI,zJ]
 ((repeat refine Ws ?_);refine W_block ?_; (repeat refine Ws ?_)); refine W_loopS (fun s : InSt => [(0, houseV h), (1, .ptr M.H.length 0), (4, ovR M.H.length h.first s.i s.tl), (5, vi s.i)]) (fun s => ⟨M.H ++ (.obj (houseC h) :: s.L), M.lg⟩) (fun s => T' - s.i) (fun s => s.i ≤ T' ∧ (s.i ≠ 0 → s.L[s.tl]? = some (.obj (spCs (fwdL h.first C s.i)))) ∧ ∀ t, t < s.i → ¬ (fwd h.first C (t + 1)).hi < (fwd h.first C (t + 1)).lo) ⟨0, 0, []⟩ ⟨Nat.zero_le _, fun q => absurd rfl q, fun t ht => absurd ht (Nat.not_lt_zero _)⟩ ⟨rfl, rfl, rfl, rfl, trivial⟩ (by simp) ?_
 rintro ⟨i, tl, L⟩ ⟨hi, hL, hno⟩
 simp only at hi hL hno
 have k1 : -9223372036854775808 ≤ (i : Int) + 1 ∧ (i : Int) + 1 < 9223372036854775808 := by omega
 have k0 : 0 ≤ (i : Int) + 1 := by omega
 have kn : ((i : Int) + 1).toNat = i + 1 := by omega
 ((repeat refine Ws ?_);refine W_region0 TE_ok ?_)
 rcases Nat.lt_or_ge i T' with hlt | hge
 ·have k2 : ((i : Int) < h.ticks) = True := eq_true (by omega)
  have hb1 := hfb i
  have hb2 := hCb i
  have q1 : -9223372036854775808 ≤ (fwd h.first C i).lo + (C i).lo ∧ (fwd h.first C i).lo + (C i).lo < 9223372036854775808 := by omega
  have q2 : -9223372036854775808 ≤ (fwd h.first C i).hi + (C i).hi ∧ (fwd h.first C i).hi + (C i).hi < 9223372036854775808 := by omega
  have ef : fwd h.first C (i + 1) = ⟨max 0 ((fwd h.first C i).lo + (C i).lo), (fwd h.first C i).hi + (C i).hi⟩ := rfl
  have el : max 0 ((fwd h.first C i).lo + (C i).lo) = (fwd h.first C (i + 1)).lo := by rw [ef]
  have eh : (fwd h.first C i).hi + (C i).hi = (fwd h.first C (i + 1)).hi := by rw [ef]
  have hsn := fwdL_snoc h.first C i
  simp (maxSteps := 1000000) only [xE_ty, xE_fn, xE_bin, xE_oi, xE_oc, xE_ok, VL,VM,↓VG,reduceIte,reduceCtorEq,zA,zB,zC,zD,zE,zF,zG,zH,zI,zJ, k2]
  ((repeat refine Ws ?_);refine Wt (by first|rfl|simp only [EV,zF,reduceIte]) ?_)
  ((repeat refine Ws ?_);refine W_skip ?_)
  simp (maxSteps := 1000000) only [xE_ty, xE_fn, xE_bin, xE_oi, xE_oc, xE_ok, VL,VM,↓VG,reduceIte,reduceCtorEq,zA,zB,zC,zD,zE,zF,zG,zH,zI,zJ]
  ((repeat refine Ws ?_);refine W_block ?_)
  rcases i with _ | p
  ·have happ : [vi h.first.lo, vi h.first.hi, vi (fwd h.first C 1).lo, vi (fwd h.first C 1).hi] = spCs (fwdL h.first C 1) := rfl
   have q1' : -9223372036854775808 ≤ h.first.lo + (C 0).lo ∧ h.first.lo + (C 0).lo < 9223372036854775808 := q1
   have q2' : -9223372036854775808 ≤ h.first.hi + (C 0).hi ∧ h.first.hi + (C 0).hi < 9223372036854775808 := q2
   have el' : max 0 (h.first.lo + (C 0).lo) = (fwd h.first C 1).lo := el
   have eh' : h.first.hi + (C 0).hi = (fwd h.first C 1).hi := eh
   (repeat refine Ws ?_)
   refine W_drawP TE_ok [VObj.obj [vi 0, vi 0], VObj.obj [vi 0, vi 0]] (by kernel_rfl) (by kernel_rfl) ?_
   generalize hi : mkPlan _ = infs
   cbv at hi
   subst hi
   simp (maxSteps := 1000000) only [xE_ty, xE_fn, xE_bin, xE_oi, xE_oc, xE_ok, VL,VM,↓VG,reduceIte,reduceCtorEq,zA,zB,zC,zD,zE,zF,zG,zH,zI,zJ, ovR_zero, vgrow]
   apply call_d (f := 88) (fn := Try.f88) (by kernel_rfl) (by rfl)
   ·exact hCh 0 _
   simp (maxSteps := 1000000) only [xE_ty, xE_fn, xE_bin, xE_oi, xE_oc, xE_ok, VL,VM,↓VG,reduceIte,reduceCtorEq,zA,zB,zC,zD,zE,zF,zG,zH,zI,zJ, ovR_zero, vgrow]
   ((repeat refine Ws ?_);refine W_region0 TE_ok ?_)
   simp (maxSteps := 1000000) only [xE_ty, xE_fn, xE_bin, xE_oi, xE_oc, xE_ok, VL,VM,↓VG,reduceIte,reduceCtorEq,zA,zB,zC,zD,zE,zF,zG,zH,zI,zJ, ovR_zero, vgrow, q1', q2', List.flatten_cons, List.flatten_nil]
   rw [el', eh', happ]
   obtain ⟨L2, hL2⟩ : ∃ L2, L2 = L ++ [VObj.obj [vi h.first.lo, vi h.first.hi], .obj [vi (C 0).lo, vi (C 0).hi], .obj (spCs (fwdL h.first C 1))] := ⟨_, rfl⟩
   have hg2 : L2[L.length + 2]? = some (.obj (spCs (fwdL h.first C (0 + 1)))) := by rw [hL2, hget]; rfl
   rw [← hL2]
   have g1 := spCs_get (fwdL_at (first := h.first) (C := C) (Nat.le_refl (0 + 1)))
   have g2 := g1.2
   have g1 := g1.1
   have u1 : (0 + 1 < 2) = True := eq_true (by omega)
   (repeat refine Ws ?_)
   refine W_drawP TE_ok [] (by kernel_rfl) (by kernel_rfl) ?_
   generalize hi : mkPlan _ = infs
   cbv at hi
   subst hi
   by_cases b : (fwd h.first C (0 + 1)).hi < (fwd h.first C (0 + 1)).lo
   ·have kb : ((fwd h.first C (0 + 1)).hi < (fwd h.first C (0 + 1)).lo) = True := eq_true b
    simp (maxSteps := 1000000) only [xE_ty, xE_fn, xE_bin, xE_oi, xE_oc, xE_ok, VL,VM,↓VG,reduceIte,reduceCtorEq,zA,zB,zC,zD,zE,zF,zG,zH,zI,zJ, hg2, k1, k0, kn, g1, g2, u1, kb]
    ((repeat refine Ws ?_);refine Wt (by first|rfl|simp only [EV,zF,reduceIte]) ?_)
    ((repeat refine Ws ?_);refine W_region0 TE_ok ?_)
    simp (maxSteps := 1000000) only [xE_ty, xE_fn, xE_bin, xE_oi, xE_oc, xE_ok, VL,VM,↓VG,reduceIte,reduceCtorEq,zA,zB,zC,zD,zE,zF,zG,zH,zI,zJ]
    (repeat refine Ws ?_)
    refine W_ret ?_
    try simp only [thenQ, blockQ]
    refine own_ret (vs := [.sf 0 [], vb false]) (r := .tup [.p (.sl 0 []), vb false]) rfl (by simp [vtup, frz, frzL]) (by simp [refs, refsL]) ⟨rfl, ?_⟩
    rw [hR, bad_true hlt b, if_pos rfl]
   have kb : ((fwd h.first C (0 + 1)).hi < (fwd h.first C (0 + 1)).lo) = False := eq_false b
   simp (maxSteps := 1000000) only [xE_ty, xE_fn, xE_bin, xE_oi, xE_oc, xE_ok, VL,VM,↓VG,reduceIte,reduceCtorEq,zA,zB,zC,zD,zE,zF,zG,zH,zI,zJ, hg2, k1, k0, kn, g1, g2, u1, kb]
   ((repeat refine Ws ?_);refine Wf (by first|rfl|simp only [EV,zF,reduceIte]) ?_)
   ((repeat refine Ws ?_);refine W_skip ?_)
   simp (maxSteps := 1000000) only [xE_ty, xE_fn, xE_bin, xE_oi, xE_oc, xE_ok, VL,VM,↓VG,reduceIte,reduceCtorEq,zA,zB,zC,zD,zE,zF,zG,zH,zI,zJ]
   ((repeat refine Ws ?_);refine W_region0 TE_ok ?_)
   simp (maxSteps := 1000000) only [xE_ty, xE_fn, xE_bin, xE_oi, xE_oc, xE_ok, VL,VM,↓VG,reduceIte,reduceCtorEq,zA,zB,zC,zD,zE,zF,zG,zH,zI,zJ, k1]
   refine LoopK.mk ⟨0 + 1, L.length + 2, L2⟩ (by simp only; omega) ⟨hlt, fun _ => hg2, fun t ht => ?_⟩ ⟨rfl, rfl, rfl, rfl, trivial⟩ rfl
   rcases Nat.lt_succ_iff_lt_or_eq.1 ht with q | q
   ·exact hno t q
   ·rw [q]; exact b
  ·have hL1 := hL (by omega)
   have htl := lt_of_get hL1
   have e1 : ∀ Y, (L ++ Y)[tl]? = some (.obj (spCs (fwdL h.first C (p + 1)))) := fun Y => get_app hL1
   have e2 : ∀ Y x, (L ++ Y).set tl x = L.set tl x ++ Y := fun Y x => List.set_append_left _ _ htl
   have hlen : (spCs (fwdL h.first C (p + 1))).length = (p + 2) * 2 := by rw [spCs_len, fwdL_len]
   have c2 : ((p + 1) * 2 + 2 ≤ (p + 2) * 2) = True := eq_true (by omega)
   have c3 := spCs_at (fwdL_at (first := h.first) (C := C) (Nat.le_refl (p + 1)))
   have q3 : ((p + 3) * 16 ≤ 140737488355328) = True := eq_true (by omega)
   have happ : spCs (fwdL h.first C (p + 1)) ++ [vi (fwd h.first C (p + 2)).lo, vi (fwd h.first C (p + 2)).hi] = spCs (fwdL h.first C (p + 2)) := by rw [spCs_app]; exact congrArg spCs hsn
   (repeat refine Ws ?_)
   refine W_drawP TE_ok [VObj.obj [vi 0, vi 0], VObj.obj [vi 0, vi 0]] (by kernel_rfl) (by kernel_rfl) ?_
   generalize hi : mkPlan _ = infs
   cbv at hi
   subst hi
   simp (maxSteps := 1000000) only [xE_ty, xE_fn, xE_bin, xE_oi, xE_oc, xE_ok, VL,VM,↓VG,reduceIte,reduceCtorEq,zA,zB,zC,zD,zE,zF,zG,zH,zI,zJ, ovR_succ, vgrow, hL1, e1, e2, hlen, c2, c3, q3]
   apply call_d (f := 88) (fn := Try.f88) (by kernel_rfl) (by rfl)
   ·exact hCh (p + 1) _
   simp (maxSteps := 1000000) only [xE_ty, xE_fn, xE_bin, xE_oi, xE_oc, xE_ok, VL,VM,↓VG,reduceIte,reduceCtorEq,zA,zB,zC,zD,zE,zF,zG,zH,zI,zJ, ovR_succ, vgrow, hL1, e1, e2, hlen, c2, c3, q3]
   ((repeat refine Ws ?_);refine W_region0 TE_ok ?_)
   simp (maxSteps := 1000000) only [xE_ty, xE_fn, xE_bin, xE_oi, xE_oc, xE_ok, VL,VM,↓VG,reduceIte,reduceCtorEq,zA,zB,zC,zD,zE,zF,zG,zH,zI,zJ, ovR_succ, vgrow, hL1, e1, e2, hlen, c2, c3, q3, q1, q2, List.flatten_cons, List.flatten_nil]
   rw [el, eh, happ]
   obtain ⟨L2, hL2⟩ : ∃ L2, L2 = L.set tl .gone ++ [VObj.obj [vi (fwd h.first C (p + 1)).lo, vi (fwd h.first C (p + 1)).hi], .obj [vi (C (p + 1)).lo, vi (C (p + 1)).hi], .obj (spCs (fwdL h.first C (p + 2)))] := ⟨_, rfl⟩
   have hg2 : L2[L.length + 2]? = some (.obj (spCs (fwdL h.first C (p + 1 + 1)))) := by
    rw [hL2, List.getElem?_append_right (by rw [List.length_set]; omega), List.length_set, Nat.add_sub_cancel_left]; rfl
   rw [← hL2]
   have g1 := spCs_get (fwdL_at (first := h.first) (C := C) (Nat.le_refl (p + 1 + 1)))
   have g2 := g1.2
   have g1 := g1.1
   have u1 : (p + 1 + 1 < p + 3) = True := eq_true (by omega)
   (repeat refine Ws ?_)
   refine W_drawP TE_ok [] (by kernel_rfl) (by kernel_rfl) ?_
   generalize hi : mkPlan _ = infs
   cbv at hi
   subst hi
   by_cases b : (fwd h.first C (p + 1 + 1)).hi < (fwd h.first C (p + 1 + 1)).lo
   ·have kb : ((fwd h.first C (p + 1 + 1)).hi < (fwd h.first C (p + 1 + 1)).lo) = True := eq_true b
    simp (maxSteps := 1000000) only [xE_ty, xE_fn, xE_bin, xE_oi, xE_oc, xE_ok, VL,VM,↓VG,reduceIte,reduceCtorEq,zA,zB,zC,zD,zE,zF,zG,zH,zI,zJ, hg2, k1, k0, kn, g1, g2, u1, kb]
    ((repeat refine Ws ?_);refine Wt (by first|rfl|simp only [EV,zF,reduceIte]) ?_)
    ((repeat refine Ws ?_);refine W_region0 TE_ok ?_)
    simp (maxSteps := 1000000) only [xE_ty, xE_fn, xE_bin, xE_oi, xE_oc, xE_ok, VL,VM,↓VG,reduceIte,reduceCtorEq,zA,zB,zC,zD,zE,zF,zG,zH,zI,zJ]
    (repeat refine Ws ?_)
    refine W_ret ?_
    try simp only [thenQ, blockQ]
    refine own_ret (vs := [.sf 0 [], vb false]) (r := .tup [.p (.sl 0 []), vb false]) rfl (by simp [vtup, frz, frzL]) (by simp [refs, refsL]) ⟨rfl, ?_⟩
    rw [hR, bad_true hlt b, if_pos rfl]
   have kb : ((fwd h.first C (p + 1 + 1)).hi < (fwd h.first C (p + 1 + 1)).lo) = False := eq_false b
   simp (maxSteps := 1000000) only [xE_ty, xE_fn, xE_bin, xE_oi, xE_oc, xE_ok, VL,VM,↓VG,reduceIte,reduceCtorEq,zA,zB,zC,zD,zE,zF,zG,zH,zI,zJ, hg2, k1, k0, kn, g1, g2, u1, kb]
   ((repeat refine Ws ?_);refine Wf (by first|rfl|simp only [EV,zF,reduceIte]) ?_)
   ((repeat refine Ws ?_);refine W_skip ?_)
   simp (maxSteps := 1000000) only [xE_ty, xE_fn, xE_bin, xE_oi, xE_oc, xE_ok, VL,VM,↓VG,reduceIte,reduceCtorEq,zA,zB,zC,zD,zE,zF,zG,zH,zI,zJ]
   ((repeat refine Ws ?_);refine W_region0 TE_ok ?_)
   simp (maxSteps := 1000000) only [xE_ty, xE_fn, xE_bin, xE_oi, xE_oc, xE_ok, VL,VM,↓VG,reduceIte,reduceCtorEq,zA,zB,zC,zD,zE,zF,zG,zH,zI,zJ, k1]
   refine LoopK.mk ⟨p + 1 + 1, L.length + 2, L2⟩ (by simp only; omega) ⟨hlt, fun _ => hg2, fun t ht => ?_⟩ ⟨rfl, rfl, rfl, rfl, trivial⟩ rfl
   rcases Nat.lt_succ_iff_lt_or_eq.1 ht with q | q
   ·exact hno t q
   ·rw [q]; exact b
 have k2 : ((i : Int) < h.ticks) = False := eq_false (by omega)
 have hi3 : i = T' := by omega
 subst hi3
 have hR2 : insR h = .tup [spsV (insideL h.first C i), vb true] := by rw [hR, bad_false hno]; rfl
 have hbb := bwd_bd V.first hCb i
 have kt : -9223372036854775808 ≤ h.ticks - 1 ∧ h.ticks - 1 < 9223372036854775808 := by omega
 have kt2 : vi (h.ticks - 1) = vi ((i : Int) - 1 - ((0 : Nat) : Int)) := by rw [show h.ticks - 1 = (i : Int) - 1 - ((0 : Nat) : Int) by omega]
 simp (maxSteps := 1000000) only [xE_ty, xE_fn, xE_bin, xE_oi, xE_oc, xE_ok, VL,VM,↓VG,reduceIte,reduceCtorEq,zA,zB,zC,zD,zE,zF,zG,zH,zI,zJ, k2]
 ((repeat refine Ws ?_);refine Wf (by first|rfl|simp only [EV,zF,reduceIte]) ?_)
 ((repeat refine Ws ?_);refine W_exit ?_)
 simp (maxSteps := 1000000) only [xE_ty, xE_fn, xE_bin, xE_oi, xE_oc, xE_ok, VL,VM,↓VG,reduceIte,reduceCtorEq,zA,zB,zC,zD,zE,zF,zG,zH,zI,zJ]
 clear hR hno k1 k0 kn k2 hge hi
 ((repeat refine Ws ?_);refine W_region0 TE_ok ?_)
 simp (maxSteps := 1000000) only [xE_ty, xE_fn, xE_bin, xE_oi, xE_oc, xE_ok, VL,VM,↓VG,reduceIte,reduceCtorEq,zA,zB,zC,zD,zE,zF,zG,zH,zI,zJ, kt]
 ((repeat refine Ws ?_);refine W_block ?_; (repeat refine Ws ?_)); refine W_loopS (fun s : InSt => [(0, houseV h), (1, .ptr M.H.length 0), (4, ovR M.H.length h.first i tl), (8, vi ((i : Int) - 1 - (s.i : Int)))]) (fun s => ⟨M.H ++ (.obj (houseC h) :: s.L), M.lg⟩) (fun s => i - s.i) (fun s => s.i ≤ i ∧ (i ≠ 0 → s.L[tl]? = some (.obj (spCs (bwL h.first C i s.i))))) ⟨0, 0, L⟩ ⟨Nat.zero_le _, fun q => by rw [bwL_zero]; exact hL q⟩ ⟨rfl, rfl, rfl, kt2, trivial⟩ rfl ?_
 clear hL kt2
 rintro ⟨j, _, L⟩ ⟨hj, hL⟩
 simp only at hj hL
 ((repeat refine Ws ?_);refine W_region0 TE_ok ?_)
 rcases Nat.lt_or_ge j i with hlt | hge
 ·obtain ⟨p, rfl⟩ : ∃ p, i = p + 1 := ⟨i - 1, by omega⟩
  obtain ⟨m, hm⟩ : ∃ m, m + j = p := ⟨p - j, by omega⟩
  have k2 : (0 ≤ ((p + 1 : Nat) : Int) - 1 - (j : Int)) = True := eq_true (by omega)
  have hkm : ((p + 1 : Nat) : Int) - 1 - (j : Int) = (m : Int) := by omega
  have hL1 := hL (by omega)
  have htl := lt_of_get hL1
  have e1 : ∀ Y, (L ++ Y)[tl]? = some (.obj (spCs (bwL h.first C (p + 1) j))) := fun Y => get_app hL1
  have e2 : ∀ Y x, (L ++ Y).set tl x = L.set tl x ++ Y := fun Y x => List.set_append_left _ _ htl
  have hlen : (spCs (bwL h.first C (p + 1) j)).length = (p + 2) * 2 := by rw [spCs_len, bwL_len]
  have a1 := bwL_at (first := h.first) (C := C) (T := p + 1) (j := j) (t := m) (by omega)
  rw [if_neg (by omega)] at a1
  have a2 := bwL_at (first := h.first) (C := C) (T := p + 1) (j := j) (t := m + 1) (by omega)
  rw [if_pos (by omega), show p + 1 - (m + 1) = j by omega] at a2
  have b1 := spCs_get a1
  have b1h := b1.2
  have b1 := b1.1
  have b2 := spCs_at a2
  have k1 : -9223372036854775808 ≤ (m : Int) + 1 ∧ (m : Int) + 1 < 9223372036854775808 := by omega
  have k0 : 0 ≤ (m : Int) + 1 := by omega
  have kn : ((m : Int) + 1).toNat = m + 1 := by omega
  have k3 : -9223372036854775808 ≤ (m : Int) - 1 ∧ (m : Int) - 1 < 9223372036854775808 := by omega
  have u1 : (m < p + 2) = True := eq_true (by omega)
  have u2 : (m + 1 < p + 2) = True := eq_true (by omega)
  have u3 : (m * 2 + 2 ≤ (p + 2) * 2) = True := eq_true (by omega)
  have u4 : ((m + 1) * 2 + 2 ≤ (p + 2) * 2) = True := eq_true (by omega)
  have hb1 := hfb m
  have hb2 := hCb m
  have hb3 := hbb j (by omega)
  have q1 : -9223372036854775808 ≤ (bwd h.first C (p + 1) j).lo - (C m).hi ∧ (bwd h.first C (p + 1) j).lo - (C m).hi < 9223372036854775808 := by omega
  have q2 : -9223372036854775808 ≤ (bwd h.first C (p + 1) j).hi - (C m).lo ∧ (bwd h.first C (p + 1) j).hi - (C m).lo < 9223372036854775808 := by omega
  have ef : bwd h.first C (p + 1) (j + 1) = ⟨max (fwd h.first C m).lo ((bwd h.first C (p + 1) j).lo - (C m).hi), min (fwd h.first C m).hi ((bwd h.first C (p + 1) j).hi - (C m).lo)⟩ := by
   simp only [bwd, show p + 1 - (j + 1) = m by omega]
  have el : max (fwd h.first C m).lo ((bwd h.first C (p + 1) j).lo - (C m).hi) = (bwd h.first C (p + 1) (j + 1)).lo := by rw [ef]
  have eh : min (fwd h.first C m).hi ((bwd h.first C (p + 1) j).hi - (C m).lo) = (bwd h.first C (p + 1) (j + 1)).hi := by rw [ef]
  have hst := bwL_set (first := h.first) (C := C) (T := p + 1) (j := j) (m := m) (by omega)
  have c4 := spCs_set (l := bwL h.first C (p + 1) j) (k := m) (bwd h.first C (p + 1) (j + 1)) (by rw [bwL_len]; omega)
  rw [hst] at c4
  have hfin : vi ((m : Int) - 1) = vi (((p + 1 : Nat) : Int) - 1 - ((j + 1 : Nat) : Int)) := by rw [show (m : Int) - 1 = ((p + 1 : Nat) : Int) - 1 - ((j + 1 : Nat) : Int) by omega]
  simp (maxSteps := 1000000) only [xE_ty, xE_fn, xE_bin, xE_oi, xE_oc, xE_ok, VL,VM,↓VG,reduceIte,reduceCtorEq,zA,zB,zC,zD,zE,zF,zG,zH,zI,zJ, k2]
  ((repeat refine Ws ?_);refine Wt (by first|rfl|simp only [EV,zF,reduceIte]) ?_)
  ((repeat refine Ws ?_);refine W_skip ?_)
  simp (maxSteps := 1000000) only [xE_ty, xE_fn, xE_bin, xE_oi, xE_oc, xE_ok, VL,VM,↓VG,reduceIte,reduceCtorEq,zA,zB,zC,zD,zE,zF,zG,zH,zI,zJ]
  ((repeat refine Ws ?_);refine W_block ?_)
  (repeat refine Ws ?_)
  refine W_drawP TE_ok [VObj.obj [vi 0, vi 0], VObj.obj [vi 0, vi 0]] (by kernel_rfl) (by kernel_rfl) ?_
  generalize hi : mkPlan _ = infs
  cbv at hi
  subst hi
  simp (maxSteps := 1000000) only [xE_ty, xE_fn, xE_bin, xE_oi, xE_oc, xE_ok, VL,VM,↓VG,reduceIte,reduceCtorEq,zA,zB,zC,zD,zE,zF,zG,zH,zI,zJ, ovR_succ, hkm, hL1, e1, hlen, b2, k0, k1, kn, u2, u4]
  apply call_d (f := 88) (fn := Try.f88) (by kernel_rfl) (by rfl)
  ·exact hCh m _
  simp (maxSteps := 1000000) only [xE_ty, xE_fn, xE_bin, xE_oi, xE_oc, xE_ok, VL,VM,↓VG,reduceIte,reduceCtorEq,zA,zB,zC,zD,zE,zF,zG,zH,zI,zJ, ovR_succ, hkm, hL1, e1, hlen, b2, k0, k1, kn, u2, u4]
  (repeat refine Ws ?_)
  refine W_drawP TE_ok [] (by kernel_rfl) (by kernel_rfl) ?_
  generalize hi : mkPlan _ = infs
  cbv at hi
  subst hi
  simp (maxSteps := 1000000) only [xE_ty, xE_fn, xE_bin, xE_oi, xE_oc, xE_ok, VL,VM,↓VG,reduceIte,reduceCtorEq,zA,zB,zC,zD,zE,zF,zG,zH,zI,zJ, ovR_succ, hkm, e1, e2, hlen, b1, b1h, q1, q2, u1, u3, el, eh, c4]
  ((repeat refine Ws ?_);refine W_region0 TE_ok ?_)
  simp (maxSteps := 1000000) only [xE_ty, xE_fn, xE_bin, xE_oi, xE_oc, xE_ok, VL,VM,↓VG,reduceIte,reduceCtorEq,zA,zB,zC,zD,zE,zF,zG,zH,zI,zJ, hkm, k3]
  refine LoopK.mk ⟨j + 1, 0, L.set tl (.obj (spCs (bwL h.first C (p + 1) (j + 1)))) ++ [.obj [vi (bwd h.first C (p + 1) j).lo, vi (bwd h.first C (p + 1) j).hi], .obj [vi (C m).lo, vi (C m).hi]]⟩ (by simp only; omega) ⟨hlt, get_app (List.getElem?_set_self htl)⟩ ⟨rfl, rfl, rfl, hfin, trivial⟩ rfl
 have k2 : (0 ≤ (i : Int) - 1 - (j : Int)) = False := eq_false (by omega)
 have hj3 : j = i := by omega
 subst hj3
 simp (maxSteps := 1000000) only [xE_ty, xE_fn, xE_bin, xE_oi, xE_oc, xE_ok, VL,VM,↓VG,reduceIte,reduceCtorEq,zA,zB,zC,zD,zE,zF,zG,zH,zI,zJ, k2]
 ((repeat refine Ws ?_);refine Wf (by first|rfl|simp only [EV,zF,reduceIte]) ?_)
 ((repeat refine Ws ?_);refine W_exit ?_)
 simp (maxSteps := 1000000) only [xE_ty, xE_fn, xE_bin, xE_oi, xE_oc, xE_ok, VL,VM,↓VG,reduceIte,reduceCtorEq,zA,zB,zC,zD,zE,zF,zG,zH,zI,zJ]
 ((repeat refine Ws ?_);refine W_region0 TE_ok ?_)
 simp (maxSteps := 1000000) only [xE_ty, xE_fn, xE_bin, xE_oi, xE_oc, xE_ok, VL,VM,↓VG,reduceIte,reduceCtorEq,zA,zB,zC,zD,zE,zF,zG,zH,zI,zJ]
 (repeat refine Ws ?_)
 refine W_ret ?_
 try simp only [thenQ, blockQ]
 refine own_ret (vs := [ovR M.H.length h.first j tl, vb true]) (r := .tup [spsV (insideL h.first C j), vb true]) rfl ?_ (by simp [refs, refsL]) ⟨rfl, hR2.symm⟩
 have h3t : ∀ (n : Nat) (H : List VObj) (a b : VV), frz n H (.tup [a, b]) = .tup [frz n H a, frz n H b] := fun n H a b => by rw [frz, frzL, frzL, frzL]
 show frz _ _ (.tup [_, _]) = _
 rw [h3t]
 have : frz M.H.length (M.H ++ VObj.obj (houseC h) :: L) (ovR M.H.length h.first j tl) = spsV (insideL h.first C j) := by
  rcases j with _ | p
  ·rfl
  ·have := frz_spans (n0 := M.H.length) (id := M.H.length + (tl + 1)) (H := M.H ++ VObj.obj (houseC h) :: L) (l := bwL h.first C (p + 1) (p + 1)) (by omega) (by rw [hget]; exact hL (by omega))
   rw [bwL_len] at this
   rw [ovR_succ, ← bwL_end]
   exact this
 rw [this]
 rfl
end Go.Proofs.Ytmagiabapakhcaa.Vm

/- The reference: Inside, on values. (Vm) -/
namespace Go.Proofs.Ytmagiabapakhcaa.Vm
open Go Go.Proofs
end Go.Proofs.Ytmagiabapakhcaa.Vm

/- Houses and kitchens that are copied, and compared with what they were copied from, on values. (Vm) -/
namespace Go.Proofs.Ytmagiabapakhcaa.Vm
open Go Go.Proofs
theorem copyInts_v (xs : List Int) (M : Mem) (hl : xs.length ≤ 1000000) : VC Try.prog 31 [intsV xs] M (fun r M' => M' = M ∧ r = intsV xs) := by
 have q1 : (xs.length * 8 ≤ 140737488355328) = True := eq_true (by omega)
 refine VC_own' T_ok (f := 31) (fn := Try.f31) (by kernel_rfl) rfl Try.ntmps31 (by rfl) (by rfl) ?_
 ((repeat refine Ws ?_);refine Wr ?_)
 simp (maxSteps := 1000000) only [VL,VM,↓VG,reduceIte,reduceCtorEq,zA,zB,zC,zD,zE,zF,zG,zH,zI,zJ]
 ((repeat refine Ws ?_);refine Wr ?_)
 simp (maxSteps := 1000000) only [VL,VM,↓VG,reduceIte,reduceCtorEq,zA,zB,zC,zD,zE,zF,zG,zH,zI,zJ, q1]
 (repeat refine Ws ?_)
 refine W_ret ?_
 try simp only [thenQ, blockQ]
 refine own_ret1 rfl ?_ (by rfl)
 simp only [get_cons, frz, vtup, Nat.reduceEqDiff, if_true, if_false, reduceIte]
theorem copyHouse_v (h : Ho) (M : Mem) (hm : h.holds.length ≤ 1000000) (hg : h.doors.length ≤ 1000000) (hc : h.counts.length ≤ 1000000) : VC Try.prog 21 [houseV h] M (fun r M' => M' = M ∧ r = houseV h) := by
 have q1 : (h.doors.length * 24 ≤ 140737488355328) = True := eq_true (by omega)
 have q2 : (h.counts.length * 48 ≤ 140737488355328) = True := eq_true (by omega)
 refine VC_own' T_ok (f := 21) (fn := Try.f21) (by kernel_rfl) rfl Try.ntmps21 (by rfl) (by rfl) ?_
 ((repeat refine Ws ?_);refine Wr ?_)
 simp (maxSteps := 1000000) only [VL,VM,↓VG,reduceIte,reduceCtorEq,zA,zB,zC,zD,zE,zF,zG,zH,zI,zJ]
 (repeat refine Ws ?_)
 refine W_drawP T_ok [] (by kernel_rfl) (by kernel_rfl) ?_
 generalize hi : mkPlan _ = infs
 cbv at hi
 subst hi
 simp (maxSteps := 1000000) only [VL,VM,↓VG,reduceIte,reduceCtorEq,zA,zB,zC,zD,zE,zF,zG,zH,zI,zJ, q1, q2]
 apply call_d (f := 31) (fn := Try.f31) (by kernel_rfl) (by rfl)
 ·exact copyInts_v h.holds _ hm
 simp (maxSteps := 1000000) only [VL,VM,↓VG,reduceIte,reduceCtorEq,zA,zB,zC,zD,zE,zF,zG,zH,zI,zJ, q1, q2]
 ((repeat refine Ws ?_);refine Wr ?_)
 simp (maxSteps := 1000000) only [VL,VM,↓VG,reduceIte,reduceCtorEq,zA,zB,zC,zD,zE,zF,zG,zH,zI,zJ]
 (repeat refine Ws ?_)
 refine W_ret ?_
 try simp only [thenQ, blockQ]
 obtain ⟨X1, h1, g1⟩ := addLg_Y M.H.length [M.H.length + 2] M.lg
 obtain ⟨X2, h2, g2⟩ := addLg_Y M.H.length [M.H.length + 3] (addLg M.H.length [M.H.length + 2] M.lg)
 refine ⟨.inr (by trivial), by trivial, ⟨X1 ++ X2, by rw [h2, h1, List.append_assoc], fun e he => ?_⟩, M.H, _, rfl, rfl, [houseV h], ?_, houseV h, by rfl, by simp [refs, refsL], rfl, rfl⟩
 ·rcases List.mem_append.1 he with he | he
  ·have := (g1 e he).1; omega
  ·have := (g2 e he).1; omega
 simp [Try.f21, vresL, vload, t_house, get_cons, hget, hget0, nat_ble, strip1]
theorem sameHouse_v (h : Ho) (M : Mem) (hm : h.holds.length ≤ 1000000) (hg : h.doors.length ≤ 1000000) (hc : h.counts.length ≤ 1000000) : VC Try.prog 27 [houseV h, houseV h] M (fun r M' => M' = M ∧ r = vb true) := by
 refine VC_own' T_ok (f := 27) (fn := Try.f27) (by kernel_rfl) rfl Try.ntmps27 (by rfl) (by rfl) ?_
 ((repeat refine Ws ?_);refine Wr ?_)
 simp (maxSteps := 1000000) only [VL,VM,↓VG,reduceIte,reduceCtorEq,zA,zB,zC,zD,zE,zF,zG,zH,zI,zJ]
 ((repeat refine Ws ?_);refine Wr ?_)
 simp (maxSteps := 1000000) only [VL,VM,↓VG,reduceIte,reduceCtorEq,zA,zB,zC,zD,zE,zF,zG,zH,zI,zJ]
 apply call_eq (f := 34) (fn := Try.f34) (by kernel_rfl) (by rfl)
 ·exact sameInts_v h.holds h.holds _ hm
 have es : vbin T .eql 25 (spV h.first) (spV h.first) = some (vb true) := by rw [v_eqSpan]; simp
 simp (maxSteps := 1000000) only [VL,VM,↓VG,reduceIte,reduceCtorEq,zA,zB,zC,zD,zE,zF,zG,zH,zI,zJ, es]
 ((repeat refine Ws ?_);refine Wr ?_)
 simp (maxSteps := 1000000) only [VL,VM,↓VG,reduceIte,reduceCtorEq,zA,zB,zC,zD,zE,zF,zG,zH,zI,zJ]
 ((repeat refine Ws ?_);refine W_block ?_; (repeat refine Ws ?_)); refine W_loopS (fun i : Nat => [(2, .ptr M.H.length 0), (3, .ptr (M.H.length + 1) 0), (5, vb true), (6, vi i)]) (fun _ => ⟨M.H ++ [.obj (houseC h), .obj (houseC h)], M.lg⟩) (fun i => h.doors.length - i) (fun i => i ≤ h.doors.length) 0 (Nat.zero_le _) ⟨rfl, rfl, rfl, rfl, trivial⟩ rfl ?_
 intro i hi
 have k1 : -9223372036854775808 ≤ (i : Int) + 1 ∧ (i : Int) + 1 < 9223372036854775808 := by omega
 ((repeat refine Ws ?_);refine Wr ?_)
 rcases Nat.lt_or_ge i h.doors.length with hlt | hge
 ·have k2 : ((i : Int) < (h.doors.length : Int)) = True := eq_true (by omega)
  have hx : h.doors[i]? = some h.doors[i] := List.getElem?_eq_getElem hlt
  generalize h.doors[i] = x at hx
  have hx' := map_at (f := doP) hx
  have es : vbin T .eql 79 (doV x) (doV x) = some (vb true) := by rw [v_eqDoor]; simp
  simp (maxSteps := 1000000) only [VL,VM,↓VG,reduceIte,reduceCtorEq,zA,zB,zC,zD,zE,zF,zG,zH,zI,zJ, k2]
  ((repeat refine Ws ?_);refine Wt (by first|rfl|simp only [EV,zF,reduceIte]) ?_)
  ((repeat refine Ws ?_);refine W_skip ?_)
  simp (maxSteps := 1000000) only [VL,VM,↓VG,reduceIte,reduceCtorEq,zA,zB,zC,zD,zE,zF,zG,zH,zI,zJ]
  ((repeat refine Ws ?_);refine W_block ?_)
  (repeat refine Ws ?_)
  refine W_drawP T_ok [] (by kernel_rfl) (by kernel_rfl) ?_
  generalize hi : mkPlan _ = infs
  cbv at hi
  subst hi
  simp (maxSteps := 1000000) only [VL,VM,↓VG,reduceIte,reduceCtorEq,zA,zB,zC,zD,zE,zF,zG,zH,zI,zJ, hx', es]
  ((repeat refine Ws ?_);refine Wr ?_)
  simp (maxSteps := 1000000) only [VL,VM,↓VG,reduceIte,reduceCtorEq,zA,zB,zC,zD,zE,zF,zG,zH,zI,zJ, k1]
  exact LoopK.mk (i + 1) (by omega) (by omega) ⟨rfl, rfl, rfl, rfl, trivial⟩ rfl
 have k2 : ((i : Int) < (h.doors.length : Int)) = False := eq_false (by omega)
 simp (maxSteps := 1000000) only [VL,VM,↓VG,reduceIte,reduceCtorEq,zA,zB,zC,zD,zE,zF,zG,zH,zI,zJ, k2]
 ((repeat refine Ws ?_);refine Wf (by first|rfl|simp only [EV,zF,reduceIte]) ?_)
 ((repeat refine Ws ?_);refine W_exit ?_)
 simp (maxSteps := 1000000) only [VL,VM,↓VG,reduceIte,reduceCtorEq,zA,zB,zC,zD,zE,zF,zG,zH,zI,zJ]
 clear hge k2 k1 hi
 ((repeat refine Ws ?_);refine Wr ?_)
 simp (maxSteps := 1000000) only [VL,VM,↓VG,reduceIte,reduceCtorEq,zA,zB,zC,zD,zE,zF,zG,zH,zI,zJ]
 ((repeat refine Ws ?_);refine W_block ?_; (repeat refine Ws ?_)); refine W_loopS (fun i : Nat => [(2, .ptr M.H.length 0), (3, .ptr (M.H.length + 1) 0), (5, vb true), (7, vi i)]) (fun _ => ⟨M.H ++ [.obj (houseC h), .obj (houseC h)], M.lg⟩) (fun i => h.counts.length - i) (fun i => i ≤ h.counts.length) 0 (Nat.zero_le _) ⟨rfl, rfl, rfl, rfl, trivial⟩ rfl ?_
 intro i hi
 have k1 : -9223372036854775808 ≤ (i : Int) + 1 ∧ (i : Int) + 1 < 9223372036854775808 := by omega
 ((repeat refine Ws ?_);refine Wr ?_)
 rcases Nat.lt_or_ge i h.counts.length with hlt | hge
 ·have k2 : ((i : Int) < (h.counts.length : Int)) = True := eq_true (by omega)
  have hx : h.counts[i]? = some h.counts[i] := List.getElem?_eq_getElem hlt
  generalize h.counts[i] = x at hx
  have hx' := map_at (f := coP) hx
  have es : vbin T .eql 30 (coV x) (coV x) = some (vb true) := by rw [v_eqCount]; simp
  simp (maxSteps := 1000000) only [VL,VM,↓VG,reduceIte,reduceCtorEq,zA,zB,zC,zD,zE,zF,zG,zH,zI,zJ, k2]
  ((repeat refine Ws ?_);refine Wt (by first|rfl|simp only [EV,zF,reduceIte]) ?_)
  ((repeat refine Ws ?_);refine W_skip ?_)
  simp (maxSteps := 1000000) only [VL,VM,↓VG,reduceIte,reduceCtorEq,zA,zB,zC,zD,zE,zF,zG,zH,zI,zJ]
  ((repeat refine Ws ?_);refine W_block ?_)
  (repeat refine Ws ?_)
  refine W_drawP T_ok [] (by kernel_rfl) (by kernel_rfl) ?_
  generalize hi : mkPlan _ = infs
  cbv at hi
  subst hi
  simp (maxSteps := 1000000) only [VL,VM,↓VG,reduceIte,reduceCtorEq,zA,zB,zC,zD,zE,zF,zG,zH,zI,zJ, hx', es]
  ((repeat refine Ws ?_);refine Wr ?_)
  simp (maxSteps := 1000000) only [VL,VM,↓VG,reduceIte,reduceCtorEq,zA,zB,zC,zD,zE,zF,zG,zH,zI,zJ, k1]
  exact LoopK.mk (i + 1) (by omega) (by omega) ⟨rfl, rfl, rfl, rfl, trivial⟩ rfl
 have k2 : ((i : Int) < (h.counts.length : Int)) = False := eq_false (by omega)
 simp (maxSteps := 1000000) only [VL,VM,↓VG,reduceIte,reduceCtorEq,zA,zB,zC,zD,zE,zF,zG,zH,zI,zJ, k2]
 ((repeat refine Ws ?_);refine Wf (by first|rfl|simp only [EV,zF,reduceIte]) ?_)
 ((repeat refine Ws ?_);refine W_exit ?_)
 simp (maxSteps := 1000000) only [VL,VM,↓VG,reduceIte,reduceCtorEq,zA,zB,zC,zD,zE,zF,zG,zH,zI,zJ]
 ((repeat refine Ws ?_);refine Wr ?_)
 simp (maxSteps := 1000000) only [VL,VM,↓VG,reduceIte,reduceCtorEq,zA,zB,zC,zD,zE,zF,zG,zH,zI,zJ]
 (repeat refine Ws ?_)
 refine W_ret ?_
 try simp only [thenQ, blockQ]
 refine own_ret (vs := [vb true]) rfl ?_ (by rfl) ⟨rfl, rfl⟩
 rfl
end Go.Proofs.Ytmagiabapakhcaa.Vm

/- A cell of an object that is known in another way; slices that others lead to, and that grow. (Vm) -/
namespace Go.Proofs.Ytmagiabapakhcaa.Vm
open Go Go.Proofs
section
variable {P : Program} {T : Tab} {cx : Cx} {e : Env} {M : Mem} {D : List Nat} {Q : PQ} {c : Code}
end
end Go.Proofs.Ytmagiabapakhcaa.Vm

/- The law of who may be inside, on values. (Vm) -/
namespace Go.Proofs.Ytmagiabapakhcaa.Vm
open Go Go.Proofs
abbrev housePP (h : Ho) : List PV := [.sl 1 (h.holds.map intP), .sl 3 (h.doors.map doP), .int .i64 h.first.lo, .int .i64 h.first.hi, .int .i64 h.ticks, .sl 6 (h.counts.map coP)]
def vastB (h : Ho) : Bool := decide (12 < h.holds.length) || decide (12 < h.doors.length) || decide (40 < h.counts.length)
theorem not_vast {h : Ho} (hv : vastB h = false) : h.holds.length ≤ 12 ∧ h.doors.length ≤ 12 ∧ h.counts.length ≤ 40 := by
 simp only [vastB, Bool.or_eq_false_iff, decide_eq_false_iff_not] at hv
 omega
theorem vast_v (h : Ho) (M : Mem) : VC Try.prog 17 [houseV h] M (fun r M' => M' = M ∧ r = vb (vastB h)) := by
 refine VC_own' T_ok (f := 17) (fn := Try.f17) (by kernel_rfl) rfl Try.ntmps17 (by rfl) (by rfl) ?_
 ((repeat refine Ws ?_);refine Wr ?_)
 simp (maxSteps := 1000000) only [VL,VM,↓VG,reduceIte,reduceCtorEq,zA,zB,zC,zD,zE,zF,zG,zH,zI,zJ]
 ((repeat refine Ws ?_);refine Wr ?_)
 by_cases a1 : 12 < h.holds.length
 ·have k1 : ((12 : Int) < (h.holds.length : Int)) = True := eq_true (by omega)
  have e : vastB h = true := by simp [vastB, a1]
  simp (maxSteps := 1000000) only [VL,VM,↓VG,reduceIte,reduceCtorEq,zA,zB,zC,zD,zE,zF,zG,zH,zI,zJ, k1]
  (repeat refine Ws ?_)
  refine W_ret ?_
  try simp only [thenQ, blockQ]
  refine own_ret1 rfl ?_ (by rfl)
  simp only [get_cons, frz, vtup, Nat.reduceEqDiff, if_true, if_false, reduceIte]
  rw [e]
 have k1 : ((12 : Int) < (h.holds.length : Int)) = False := eq_false (by omega)
 by_cases a2 : 12 < h.doors.length
 ·have k2 : ((12 : Int) < (h.doors.length : Int)) = True := eq_true (by omega)
  have e : vastB h = true := by simp [vastB, a2]
  simp (maxSteps := 1000000) only [VL,VM,↓VG,reduceIte,reduceCtorEq,zA,zB,zC,zD,zE,zF,zG,zH,zI,zJ, k1, k2]
  (repeat refine Ws ?_)
  refine W_ret ?_
  try simp only [thenQ, blockQ]
  refine own_ret1 rfl ?_ (by rfl)
  simp only [get_cons, frz, vtup, Nat.reduceEqDiff, if_true, if_false, reduceIte]
  rw [e]
 have k2 : ((12 : Int) < (h.doors.length : Int)) = False := eq_false (by omega)
 by_cases a3 : 40 < h.counts.length
 ·have k3 : ((40 : Int) < (h.counts.length : Int)) = True := eq_true (by omega)
  have e : vastB h = true := by simp [vastB, a3]
  simp (maxSteps := 1000000) only [VL,VM,↓VG,reduceIte,reduceCtorEq,zA,zB,zC,zD,zE,zF,zG,zH,zI,zJ, k1, k2, k3]
  (repeat refine Ws ?_)
  refine W_ret ?_
  try simp only [thenQ, blockQ]
  refine own_ret1 rfl ?_ (by rfl)
  simp only [get_cons, frz, vtup, Nat.reduceEqDiff, if_true, if_false, reduceIte]
  rw [e]
 have k3 : ((40 : Int) < (h.counts.length : Int)) = False := eq_false (by omega)
 have e : vastB h = false := by simp [vastB, a1, a2, a3]
 simp (maxSteps := 1000000) only [VL,VM,↓VG,reduceIte,reduceCtorEq,zA,zB,zC,zD,zE,zF,zG,zH,zI,zJ, k1, k2, k3]
 (repeat refine Ws ?_)
 refine W_ret ?_
 try simp only [thenQ, blockQ]
 refine own_ret1 rfl ?_ (by rfl)
 simp only [get_cons, frz, vtup, Nat.reduceEqDiff, if_true, if_false, reduceIte]
 rw [e]
structure JSt where
 i : Nat
 junk : List VObj
end Go.Proofs.Ytmagiabapakhcaa.Vm
