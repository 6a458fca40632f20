/- A part of the proofs about the chapter of the doors; it states no condition of its own. -/
import Derived.Test.YtmagiabapakhcaaB27
import Derived.Test.YtmagiabapakhcaaB29
import Derived.Test.YtmagiabapakhcaaB34
import Derived.Test.YtmagiabapakhcaaB35
import Derived.Test.YtmagiabapakhcaaB37
set_option linter.unusedVariables false
set_option linter.unusedSimpArgs false
open Int renaming reduceLE → zA, reduceLT → zB, reduceToNat → zC, reduceNeg → zD
open Nat renaming reduceLT → zE, reduceEqDiff → zF, reduceAdd → zG, reduceSub → zH, reduceMul → zI, reduceLeDiff → zJ
/- The reference: who may be inside, on values. (Vm) -/
-- TABLE TE
namespace Go.Proofs.Ytmagiabapakhcaa.Vm
open Go Go.Proofs
theorem chg_take {cs : List Co} {i : Nat} {c : Co} (hx : cs[i]? = some c) (t : Int) : chg (cs.take (i + 1)) t = if c.tick = t then addS (chg (cs.take i) t) (valS (some c)) else chg (cs.take i) t := by
 rw [List.take_add_one, hx]
 exact chg_snoc _ _ _
theorem chg_bdT {h : Ho} (V : HV h) (t : Int) : ∀ i : Nat, i ≤ h.counts.length → -10000 * (i : Int) ≤ (chg (h.counts.take i) t).lo ∧ (chg (h.counts.take i) t).lo ≤ 10000 * (i : Int) ∧ -10000 * (i : Int) ≤ (chg (h.counts.take i) t).hi ∧ (chg (h.counts.take i) t).hi ≤ 10000 * (i : Int)
 | 0, _ => by simp [chg]
 | i + 1, hi => by
  have h1 := chg_bdT V t i (by omega)
  have hx : h.counts[i]? = some (h.counts[i]'(by omega)) := List.getElem?_eq_getElem (by omega)
  have hv := V.counts _ (List.getElem_mem (l := h.counts) (n := i) (by omega))
  generalize h.counts[i]'(by omega) = c at hx hv
  obtain ⟨i0, i1, i2⟩ := hv.i
  obtain ⟨o0, o1, o2⟩ := hv.o
  rw [chg_take hx]
  push_cast
  split
  ·simp only [addS, valS]
   omega
  ·omega
set_option maxHeartbeats 1000000 in
set_option maxRecDepth 8000 in
theorem change_r (h : Ho) (V : HV h) (t : Int) (M : Mem) : VC Try.prog 88 [houseV h, vi t] M (fun r M' => M' = M ∧ r = spV (chg h.counts t)) := by
 have c1 := V.c1
 refine VC_own' TE_ok (f := 88) (fn := Try.f88) (by kernel_rfl) rfl Try.ntmps88 (by rfl) (by rfl) ?_
 ((repeat refine W_seq ?_); refine W_region0 TE_ok ?_)
 simp (maxSteps := 1000000) only [xE_ty, xE_fn, xE_bin, xE_oi, xE_oc, xE_ok, VL, VM, ↓VG, reduceIte, reduceCtorEq, zA, zB, zC, zD, zE, zF, zG, zH, zI, zJ]
 ((repeat refine W_seq ?_); refine W_region0 TE_ok ?_)
 simp (maxSteps := 1000000) only [xE_ty, xE_fn, xE_bin, xE_oi, xE_oc, xE_ok, VL, VM, ↓VG, reduceIte, reduceCtorEq, zA, zB, zC, zD, zE, zF, zG, zH, zI, zJ]
 ((repeat refine W_seq ?_); refine W_region0 TE_ok ?_)
 simp (maxSteps := 1000000) only [xE_ty, xE_fn, xE_bin, xE_oi, xE_oc, xE_ok, VL, VM, ↓VG, reduceIte, reduceCtorEq, zA, zB, zC, zD, zE, zF, zG, zH, zI, zJ]
 ((repeat refine W_seq ?_); refine W_block ?_; (repeat refine W_seq ?_)); refine W_loopS (fun s : ChkSt => [(0, houseV h), (1, vi t), (2, .ptr M.H.length 0), (4, .ptr (M.H.length + 1) 0), (5, .ptr (M.H.length + 2) 0), (6, vi s.i)]) (fun s => ⟨M.H ++ (.obj (houseC h) :: .obj [vi 0, vi 0] :: .obj [vi (chg (h.counts.take s.i) t).lo, vi (chg (h.counts.take s.i) t).hi] :: s.junk), M.lg⟩) (fun s => h.counts.length - s.i) (fun s => s.i ≤ h.counts.length) ⟨0, []⟩ (Nat.zero_le _) ⟨rfl, rfl, rfl, rfl, rfl, rfl, trivial⟩ rfl ?_
 rintro ⟨i, junk⟩ hi
 simp only at hi
 have k1 : -9223372036854775808 ≤ (i : Int) + 1 ∧ (i : Int) + 1 < 9223372036854775808 := by omega
 ((repeat refine W_seq ?_); refine W_region0 TE_ok ?_)
 rcases Nat.lt_or_ge i h.counts.length with hlt | hge
 ·have k2 : ((i : Int) < (h.counts.length : Int)) = True := eq_true (by omega)
  have hx : h.counts[i]? = some h.counts[i] := List.getElem?_eq_getElem hlt
  have hv := V.counts _ (List.getElem_mem hlt)
  generalize h.counts[i] = c at hx hv
  have hx' := map_at (f := coP) hx
  have hst := chg_take hx t
  have hb := chg_bdT V t i hi
  obtain ⟨i0, i1, i2⟩ := hv.i
  obtain ⟨o0, o1, o2⟩ := hv.o
  generalize chg (h.counts.take i) t = z at hst hb ⊢
  have q1 : -9223372036854775808 ≤ z.lo + c.i.lo ∧ z.lo + c.i.lo < 9223372036854775808 := by omega
  have q2 : -9223372036854775808 ≤ z.lo + c.i.lo - c.o.hi ∧ z.lo + c.i.lo - c.o.hi < 9223372036854775808 := by omega
  have q3 : -9223372036854775808 ≤ z.hi + c.i.hi ∧ z.hi + c.i.hi < 9223372036854775808 := by omega
  have q4 : -9223372036854775808 ≤ z.hi + c.i.hi - c.o.lo ∧ z.hi + c.i.hi - c.o.lo < 9223372036854775808 := by omega
  have ez : ∀ Z : Sp, Z = addS z (valS (some c)) → z.lo + c.i.lo - c.o.hi = Z.lo ∧ z.hi + c.i.hi - c.o.lo = Z.hi := fun Z hZ => by
   rw [hZ]; simp only [addS, valS]; omega
  simp (maxSteps := 1000000) only [xE_ty, xE_fn, xE_bin, xE_oi, xE_oc, xE_ok, VL, VM, ↓VG, reduceIte, reduceCtorEq, zA, zB, zC, zD, zE, zF, zG, zH, zI, zJ, k2]
  ((repeat refine W_seq ?_); refine W_cond (b := true) (by first | rfl | simp only [ev, get_cons, Nat.reduceEqDiff, if_true, if_false, reduceIte]) (fun _ => ?_) (fun h => by cases h))
  ((repeat refine W_seq ?_); refine W_skip ?_)
  simp (maxSteps := 1000000) only [xE_ty, xE_fn, xE_bin, xE_oi, xE_oc, xE_ok, VL, VM, ↓VG, reduceIte, reduceCtorEq, zA, zB, zC, zD, zE, zF, zG, zH, zI, zJ]
  ((repeat refine W_seq ?_); refine W_block ?_)
  ((repeat refine W_seq ?_); refine W_region0 TE_ok ?_)
  simp (maxSteps := 1000000) only [xE_ty, xE_fn, xE_bin, xE_oi, xE_oc, xE_ok, VL, VM, ↓VG, reduceIte, reduceCtorEq, zA, zB, zC, zD, zE, zF, zG, zH, zI, zJ, hx']
  ((repeat refine W_seq ?_); refine W_region0 TE_ok ?_)
  by_cases t1 : c.tick = t
  ·have kt : (c.tick = t) = True := eq_true t1
   rw [if_pos t1] at hst
   obtain ⟨ez1, ez2⟩ := ez _ hst
   simp (maxSteps := 1000000) only [xE_ty, xE_fn, xE_bin, xE_oi, xE_oc, xE_ok, VL, VM, ↓VG, reduceIte, reduceCtorEq, zA, zB, zC, zD, zE, zF, zG, zH, zI, zJ, kt]
   ((repeat refine W_seq ?_); refine W_cond (b := true) (by first | rfl | simp only [ev, get_cons, Nat.reduceEqDiff, if_true, if_false, reduceIte]) (fun _ => ?_) (fun h => by cases h))
   (repeat refine W_seq ?_)
   refine W_drawP TE_ok [] (by kernel_rfl) (by kernel_rfl) ?_
   generalize hi : mkPlan _ = infs
   cbv at hi
   subst hi
   simp (maxSteps := 1000000) only [xE_ty, xE_fn, xE_bin, xE_oi, xE_oc, xE_ok, VL, VM, ↓VG, reduceIte, reduceCtorEq, zA, zB, zC, zD, zE, zF, zG, zH, zI, zJ, q1, q2, q3, q4]
   ((repeat refine W_seq ?_); refine W_region0 TE_ok ?_)
   simp (maxSteps := 1000000) only [xE_ty, xE_fn, xE_bin, xE_oi, xE_oc, xE_ok, VL, VM, ↓VG, reduceIte, reduceCtorEq, zA, zB, zC, zD, zE, zF, zG, zH, zI, zJ, k1]
   refine LoopK.mk ⟨i + 1, junk ++ [.obj [vi c.tick, vi c.door, vi c.i.lo, vi c.i.hi, vi c.o.lo, vi c.o.hi]]⟩ (by simp only; omega) hlt ⟨rfl, rfl, rfl, rfl, rfl, rfl, trivial⟩ ?_
   simp only
   rw [← ez1, ← ez2]
  have kt : (c.tick = t) = False := eq_false t1
  rw [if_neg t1] at hst
  simp (maxSteps := 1000000) only [xE_ty, xE_fn, xE_bin, xE_oi, xE_oc, xE_ok, VL, VM, ↓VG, reduceIte, reduceCtorEq, zA, zB, zC, zD, zE, zF, zG, zH, zI, zJ, kt]
  ((repeat refine W_seq ?_); refine W_cond (b := false) (by first | rfl | simp only [ev, get_cons, Nat.reduceEqDiff, if_true, if_false, reduceIte]) (fun h => by cases h) (fun _ => ?_))
  ((repeat refine W_seq ?_); refine W_skip ?_)
  simp (maxSteps := 1000000) only [xE_ty, xE_fn, xE_bin, xE_oi, xE_oc, xE_ok, VL, VM, ↓VG, reduceIte, reduceCtorEq, zA, zB, zC, zD, zE, zF, zG, zH, zI, zJ]
  ((repeat refine W_seq ?_); refine W_region0 TE_ok ?_)
  simp (maxSteps := 1000000) only [xE_ty, xE_fn, xE_bin, xE_oi, xE_oc, xE_ok, VL, VM, ↓VG, reduceIte, reduceCtorEq, zA, zB, zC, zD, zE, zF, zG, zH, zI, zJ, k1]
  refine LoopK.mk ⟨i + 1, junk ++ [.obj [vi c.tick, vi c.door, vi c.i.lo, vi c.i.hi, vi c.o.lo, vi c.o.hi]]⟩ (by simp only; omega) hlt ⟨rfl, rfl, rfl, rfl, rfl, rfl, trivial⟩ ?_
  simp only
  rw [hst]
 have k2 : ((i : Int) < (h.counts.length : Int)) = False := eq_false (by omega)
 have hi3 : i = h.counts.length := by omega
 subst hi3
 simp (maxSteps := 1000000) only [xE_ty, xE_fn, xE_bin, xE_oi, xE_oc, xE_ok, VL, VM, ↓VG, reduceIte, reduceCtorEq, zA, zB, zC, zD, zE, zF, zG, zH, zI, zJ, k2]
 ((repeat refine W_seq ?_); refine W_cond (b := false) (by first | rfl | simp only [ev, get_cons, Nat.reduceEqDiff, if_true, if_false, reduceIte]) (fun h => by cases h) (fun _ => ?_))
 ((repeat refine W_seq ?_); refine W_exit ?_)
 simp (maxSteps := 1000000) only [xE_ty, xE_fn, xE_bin, xE_oi, xE_oc, xE_ok, VL, VM, ↓VG, reduceIte, reduceCtorEq, zA, zB, zC, zD, zE, zF, zG, zH, zI, zJ]
 rw [List.take_length]
 ((repeat refine W_seq ?_); refine W_region0 TE_ok ?_)
 simp (maxSteps := 1000000) only [xE_ty, xE_fn, xE_bin, xE_oi, xE_oc, xE_ok, VL, VM, ↓VG, reduceIte, reduceCtorEq, zA, zB, zC, zD, zE, zF, zG, zH, zI, zJ]
 (repeat refine W_seq ?_)
 refine W_ret ?_
 try simp only [thenQ, blockQ]
 refine own_ret (vs := [spV (chg h.counts t)]) ?_ rfl rfl ⟨rfl, rfl⟩
 simp [Try.f88, vresL, vload, xE_ty, t_span, get_cons, hget, strip1]
 try rfl
def ovR (n0 : Nat) (first : Sp) (i tl : Nat) : VV := if i = 0 then .sf 2 [spP first] else .bf (n0 + (tl + 1)) 0 (i + 1) 2
theorem ovR_zero (n0 : Nat) (first : Sp) (tl : Nat) : ovR n0 first 0 tl = .sf 2 [spP first] := rfl
theorem ovR_succ (n0 : Nat) (first : Sp) (p tl : Nat) : ovR n0 first (p + 1) tl = .bf (n0 + (tl + 1)) 0 (p + 2) 2 := rfl
set_option maxHeartbeats 1000000 in
set_option maxRecDepth 8000 in
theorem inside_r (h : Ho) (V : HV h) (M : Mem) : VC Try.prog 66 [houseV h] M (fun r M' => M' = M ∧ r = insR h) := by
 have t0 := V.t0
 have t1 := V.t1
 obtain ⟨T', hT⟩ : ∃ T' : Nat, h.ticks = (T' : Int) := ⟨h.ticks.toNat, by omega⟩
 have hTn : h.ticks.toNat = T' := by omega
 obtain ⟨C, hC⟩ : ∃ C : Nat → Sp, C = fun t : Nat => chg h.counts (t : Int) := ⟨_, rfl⟩
 have hCb : Cb C := by rw [hC]; exact chg_Cb V
 have hCh : ∀ (t : Nat) (M : Mem), VC Try.prog 88 [houseV h, vi t] M (fun r M' => M' = M ∧ r = spV (C t)) := fun t M => by rw [hC]; exact change_r h V t M
 have hR : insR h = if bad h.first C T' then .tup [.p (.sl 0 []), vb false] else .tup [spsV (insideL h.first C T'), vb true] := by
  unfold insR insideH
  rw [hTn, ← hC]
  cases bad h.first C T' <;> rfl
 have hfb := fwd_bd V.first hCb
 refine VC_own' TE_ok (f := 66) (fn := Try.f66) (by kernel_rfl) rfl Try.ntmps66 (by rfl) (by rfl) ?_
 ((repeat refine W_seq ?_); refine W_region0 TE_ok ?_)
 simp (maxSteps := 1000000) only [xE_ty, xE_fn, xE_bin, xE_oi, xE_oc, xE_ok, VL, VM, ↓VG, reduceIte, reduceCtorEq, zA, zB, zC, zD, zE, zF, zG, zH, zI, zJ]
 ((repeat refine W_seq ?_); refine W_region0 TE_ok ?_)
 simp (maxSteps := 1000000) only [xE_ty, xE_fn, xE_bin, xE_oi, xE_oc, xE_ok, VL, VM, ↓VG, reduceIte, reduceCtorEq, zA, zB, zC, zD, zE, zF, zG, zH, zI, zJ]
 ((repeat refine W_seq ?_); refine W_region0 TE_ok ?_)
 simp (maxSteps := 1000000) only [xE_ty, xE_fn, xE_bin, xE_oi, xE_oc, xE_ok, VL, VM, ↓VG, reduceIte, reduceCtorEq, zA, zB, zC, zD, zE, zF, zG, zH, zI, zJ]
 ((repeat refine W_seq ?_); refine W_block ?_; (repeat refine W_seq ?_)); refine W_loopS (fun s : InSt => [(0, houseV h), (1, .ptr M.H.length 0), (4, ovR M.H.length h.first s.i s.tl), (5, vi s.i)]) (fun s => ⟨M.H ++ (.obj (houseC h) :: s.L), M.lg⟩) (fun s => T' - s.i) (fun s => s.i ≤ T' ∧ (s.i ≠ 0 → s.L[s.tl]? = some (.obj (spCs (fwdL h.first C s.i)))) ∧ ∀ t, t < s.i → ¬ (fwd h.first C (t + 1)).hi < (fwd h.first C (t + 1)).lo) ⟨0, 0, []⟩ ⟨Nat.zero_le _, fun q => absurd rfl q, fun t ht => absurd ht (Nat.not_lt_zero _)⟩ ⟨rfl, rfl, rfl, rfl, trivial⟩ (by simp) ?_
 rintro ⟨i, tl, L⟩ ⟨hi, hL, hno⟩
 simp only at hi hL hno
 have k1 : -9223372036854775808 ≤ (i : Int) + 1 ∧ (i : Int) + 1 < 9223372036854775808 := by omega
 have k0 : 0 ≤ (i : Int) + 1 := by omega
 have kn : ((i : Int) + 1).toNat = i + 1 := by omega
 ((repeat refine W_seq ?_); refine W_region0 TE_ok ?_)
 rcases Nat.lt_or_ge i T' with hlt | hge
 ·have k2 : ((i : Int) < h.ticks) = True := eq_true (by omega)
  have hb1 := hfb i
  have hb2 := hCb i
  have q1 : -9223372036854775808 ≤ (fwd h.first C i).lo + (C i).lo ∧ (fwd h.first C i).lo + (C i).lo < 9223372036854775808 := by omega
  have q2 : -9223372036854775808 ≤ (fwd h.first C i).hi + (C i).hi ∧ (fwd h.first C i).hi + (C i).hi < 9223372036854775808 := by omega
  have ef : fwd h.first C (i + 1) = ⟨max 0 ((fwd h.first C i).lo + (C i).lo), (fwd h.first C i).hi + (C i).hi⟩ := rfl
  have el : max 0 ((fwd h.first C i).lo + (C i).lo) = (fwd h.first C (i + 1)).lo := by rw [ef]
  have eh : (fwd h.first C i).hi + (C i).hi = (fwd h.first C (i + 1)).hi := by rw [ef]
  have hsn := fwdL_snoc h.first C i
  simp (maxSteps := 1000000) only [xE_ty, xE_fn, xE_bin, xE_oi, xE_oc, xE_ok, VL, VM, ↓VG, reduceIte, reduceCtorEq, zA, zB, zC, zD, zE, zF, zG, zH, zI, zJ, k2]
  ((repeat refine W_seq ?_); refine W_cond (b := true) (by first | rfl | simp only [ev, get_cons, Nat.reduceEqDiff, if_true, if_false, reduceIte]) (fun _ => ?_) (fun h => by cases h))
  ((repeat refine W_seq ?_); refine W_skip ?_)
  simp (maxSteps := 1000000) only [xE_ty, xE_fn, xE_bin, xE_oi, xE_oc, xE_ok, VL, VM, ↓VG, reduceIte, reduceCtorEq, zA, zB, zC, zD, zE, zF, zG, zH, zI, zJ]
  ((repeat refine W_seq ?_); refine W_block ?_)
  rcases i with _ | p
  ·have happ : [vi h.first.lo, vi h.first.hi, vi (fwd h.first C 1).lo, vi (fwd h.first C 1).hi] = spCs (fwdL h.first C 1) := rfl
   have q1' : -9223372036854775808 ≤ h.first.lo + (C 0).lo ∧ h.first.lo + (C 0).lo < 9223372036854775808 := q1
   have q2' : -9223372036854775808 ≤ h.first.hi + (C 0).hi ∧ h.first.hi + (C 0).hi < 9223372036854775808 := q2
   have el' : max 0 (h.first.lo + (C 0).lo) = (fwd h.first C 1).lo := el
   have eh' : h.first.hi + (C 0).hi = (fwd h.first C 1).hi := eh
   (repeat refine W_seq ?_)
   refine W_drawP TE_ok [VObj.obj [vi 0, vi 0], VObj.obj [vi 0, vi 0]] (by kernel_rfl) (by kernel_rfl) ?_
   generalize hi : mkPlan _ = infs
   cbv at hi
   subst hi
   simp (maxSteps := 1000000) only [xE_ty, xE_fn, xE_bin, xE_oi, xE_oc, xE_ok, VL, VM, ↓VG, reduceIte, reduceCtorEq, zA, zB, zC, zD, zE, zF, zG, zH, zI, zJ, ovR_zero, vgrow]
   apply call_d (f := 88) (fn := Try.f88) (by kernel_rfl) (by rfl)
   ·exact hCh 0 _
   simp (maxSteps := 1000000) only [xE_ty, xE_fn, xE_bin, xE_oi, xE_oc, xE_ok, VL, VM, ↓VG, reduceIte, reduceCtorEq, zA, zB, zC, zD, zE, zF, zG, zH, zI, zJ, ovR_zero, vgrow]
   ((repeat refine W_seq ?_); refine W_region0 TE_ok ?_)
   simp (maxSteps := 1000000) only [xE_ty, xE_fn, xE_bin, xE_oi, xE_oc, xE_ok, VL, VM, ↓VG, reduceIte, reduceCtorEq, zA, zB, zC, zD, zE, zF, zG, zH, zI, zJ, ovR_zero, vgrow, q1', q2', List.flatten_cons, List.flatten_nil]
   rw [el', eh', happ]
   obtain ⟨L2, hL2⟩ : ∃ L2, L2 = L ++ [VObj.obj [vi h.first.lo, vi h.first.hi], .obj [vi (C 0).lo, vi (C 0).hi], .obj (spCs (fwdL h.first C 1))] := ⟨_, rfl⟩
   have hg2 : L2[L.length + 2]? = some (.obj (spCs (fwdL h.first C (0 + 1)))) := by rw [hL2, hget]; rfl
   rw [← hL2]
   have g1 := spCs_get (fwdL_at (first := h.first) (C := C) (Nat.le_refl (0 + 1)))
   have g2 := g1.2
   have g1 := g1.1
   have u1 : (0 + 1 < 2) = True := eq_true (by omega)
   (repeat refine W_seq ?_)
   refine W_drawP TE_ok [] (by kernel_rfl) (by kernel_rfl) ?_
   generalize hi : mkPlan _ = infs
   cbv at hi
   subst hi
   by_cases b : (fwd h.first C (0 + 1)).hi < (fwd h.first C (0 + 1)).lo
   ·have kb : ((fwd h.first C (0 + 1)).hi < (fwd h.first C (0 + 1)).lo) = True := eq_true b
    simp (maxSteps := 1000000) only [xE_ty, xE_fn, xE_bin, xE_oi, xE_oc, xE_ok, VL, VM, ↓VG, reduceIte, reduceCtorEq, zA, zB, zC, zD, zE, zF, zG, zH, zI, zJ, hg2, k1, k0, kn, g1, g2, u1, kb]
    ((repeat refine W_seq ?_); refine W_cond (b := true) (by first | rfl | simp only [ev, get_cons, Nat.reduceEqDiff, if_true, if_false, reduceIte]) (fun _ => ?_) (fun h => by cases h))
    ((repeat refine W_seq ?_); refine W_region0 TE_ok ?_)
    simp (maxSteps := 1000000) only [xE_ty, xE_fn, xE_bin, xE_oi, xE_oc, xE_ok, VL, VM, ↓VG, reduceIte, reduceCtorEq, zA, zB, zC, zD, zE, zF, zG, zH, zI, zJ]
    (repeat refine W_seq ?_)
    refine W_ret ?_
    try simp only [thenQ, blockQ]
    refine own_ret (vs := [.sf 0 [], vb false]) (r := .tup [.p (.sl 0 []), vb false]) rfl (by simp [vtup, frz, frzL]) (by simp [refs, refsL]) ⟨rfl, ?_⟩
    rw [hR, bad_true hlt b, if_pos rfl]
   have kb : ((fwd h.first C (0 + 1)).hi < (fwd h.first C (0 + 1)).lo) = False := eq_false b
   simp (maxSteps := 1000000) only [xE_ty, xE_fn, xE_bin, xE_oi, xE_oc, xE_ok, VL, VM, ↓VG, reduceIte, reduceCtorEq, zA, zB, zC, zD, zE, zF, zG, zH, zI, zJ, hg2, k1, k0, kn, g1, g2, u1, kb]
   ((repeat refine W_seq ?_); refine W_cond (b := false) (by first | rfl | simp only [ev, get_cons, Nat.reduceEqDiff, if_true, if_false, reduceIte]) (fun h => by cases h) (fun _ => ?_))
   ((repeat refine W_seq ?_); refine W_skip ?_)
   simp (maxSteps := 1000000) only [xE_ty, xE_fn, xE_bin, xE_oi, xE_oc, xE_ok, VL, VM, ↓VG, reduceIte, reduceCtorEq, zA, zB, zC, zD, zE, zF, zG, zH, zI, zJ]
   ((repeat refine W_seq ?_); refine W_region0 TE_ok ?_)
   simp (maxSteps := 1000000) only [xE_ty, xE_fn, xE_bin, xE_oi, xE_oc, xE_ok, VL, VM, ↓VG, reduceIte, reduceCtorEq, zA, zB, zC, zD, zE, zF, zG, zH, zI, zJ, k1]
   refine LoopK.mk ⟨0 + 1, L.length + 2, L2⟩ (by simp only; omega) ⟨hlt, fun _ => hg2, fun t ht => ?_⟩ ⟨rfl, rfl, rfl, rfl, trivial⟩ rfl
   rcases Nat.lt_succ_iff_lt_or_eq.1 ht with q | q
   ·exact hno t q
   ·rw [q]; exact b
  ·have hL1 := hL (by omega)
   have htl := lt_of_get hL1
   have e1 : ∀ Y, (L ++ Y)[tl]? = some (.obj (spCs (fwdL h.first C (p + 1)))) := fun Y => get_app hL1
   have e2 : ∀ Y x, (L ++ Y).set tl x = L.set tl x ++ Y := fun Y x => List.set_append_left _ _ htl
   have hlen : (spCs (fwdL h.first C (p + 1))).length = (p + 2) * 2 := by rw [spCs_len, fwdL_len]
   have c2 : ((p + 1) * 2 + 2 ≤ (p + 2) * 2) = True := eq_true (by omega)
   have c3 := spCs_at (fwdL_at (first := h.first) (C := C) (Nat.le_refl (p + 1)))
   have q3 : ((p + 3) * 16 ≤ 140737488355328) = True := eq_true (by omega)
   have happ : spCs (fwdL h.first C (p + 1)) ++ [vi (fwd h.first C (p + 2)).lo, vi (fwd h.first C (p + 2)).hi] = spCs (fwdL h.first C (p + 2)) := by rw [spCs_app]; exact congrArg spCs hsn
   (repeat refine W_seq ?_)
   refine W_drawP TE_ok [VObj.obj [vi 0, vi 0], VObj.obj [vi 0, vi 0]] (by kernel_rfl) (by kernel_rfl) ?_
   generalize hi : mkPlan _ = infs
   cbv at hi
   subst hi
   simp (maxSteps := 1000000) only [xE_ty, xE_fn, xE_bin, xE_oi, xE_oc, xE_ok, VL, VM, ↓VG, reduceIte, reduceCtorEq, zA, zB, zC, zD, zE, zF, zG, zH, zI, zJ, ovR_succ, vgrow, hL1, e1, e2, hlen, c2, c3, q3]
   apply call_d (f := 88) (fn := Try.f88) (by kernel_rfl) (by rfl)
   ·exact hCh (p + 1) _
   simp (maxSteps := 1000000) only [xE_ty, xE_fn, xE_bin, xE_oi, xE_oc, xE_ok, VL, VM, ↓VG, reduceIte, reduceCtorEq, zA, zB, zC, zD, zE, zF, zG, zH, zI, zJ, ovR_succ, vgrow, hL1, e1, e2, hlen, c2, c3, q3]
   ((repeat refine W_seq ?_); refine W_region0 TE_ok ?_)
   simp (maxSteps := 1000000) only [xE_ty, xE_fn, xE_bin, xE_oi, xE_oc, xE_ok, VL, VM, ↓VG, reduceIte, reduceCtorEq, zA, zB, zC, zD, zE, zF, zG, zH, zI, zJ, ovR_succ, vgrow, hL1, e1, e2, hlen, c2, c3, q3, q1, q2, List.flatten_cons, List.flatten_nil]
   rw [el, eh, happ]
   obtain ⟨L2, hL2⟩ : ∃ L2, L2 = L.set tl .gone ++ [VObj.obj [vi (fwd h.first C (p + 1)).lo, vi (fwd h.first C (p + 1)).hi], .obj [vi (C (p + 1)).lo, vi (C (p + 1)).hi], .obj (spCs (fwdL h.first C (p + 2)))] := ⟨_, rfl⟩
   have hg2 : L2[L.length + 2]? = some (.obj (spCs (fwdL h.first C (p + 1 + 1)))) := by
    rw [hL2, List.getElem?_append_right (by rw [List.length_set]; omega), List.length_set, Nat.add_sub_cancel_left]; rfl
   rw [← hL2]
   have g1 := spCs_get (fwdL_at (first := h.first) (C := C) (Nat.le_refl (p + 1 + 1)))
   have g2 := g1.2
   have g1 := g1.1
   have u1 : (p + 1 + 1 < p + 3) = True := eq_true (by omega)
   (repeat refine W_seq ?_)
   refine W_drawP TE_ok [] (by kernel_rfl) (by kernel_rfl) ?_
   generalize hi : mkPlan _ = infs
   cbv at hi
   subst hi
   by_cases b : (fwd h.first C (p + 1 + 1)).hi < (fwd h.first C (p + 1 + 1)).lo
   ·have kb : ((fwd h.first C (p + 1 + 1)).hi < (fwd h.first C (p + 1 + 1)).lo) = True := eq_true b
    simp (maxSteps := 1000000) only [xE_ty, xE_fn, xE_bin, xE_oi, xE_oc, xE_ok, VL, VM, ↓VG, reduceIte, reduceCtorEq, zA, zB, zC, zD, zE, zF, zG, zH, zI, zJ, hg2, k1, k0, kn, g1, g2, u1, kb]
    ((repeat refine W_seq ?_); refine W_cond (b := true) (by first | rfl | simp only [ev, get_cons, Nat.reduceEqDiff, if_true, if_false, reduceIte]) (fun _ => ?_) (fun h => by cases h))
    ((repeat refine W_seq ?_); refine W_region0 TE_ok ?_)
    simp (maxSteps := 1000000) only [xE_ty, xE_fn, xE_bin, xE_oi, xE_oc, xE_ok, VL, VM, ↓VG, reduceIte, reduceCtorEq, zA, zB, zC, zD, zE, zF, zG, zH, zI, zJ]
    (repeat refine W_seq ?_)
    refine W_ret ?_
    try simp only [thenQ, blockQ]
    refine own_ret (vs := [.sf 0 [], vb false]) (r := .tup [.p (.sl 0 []), vb false]) rfl (by simp [vtup, frz, frzL]) (by simp [refs, refsL]) ⟨rfl, ?_⟩
    rw [hR, bad_true hlt b, if_pos rfl]
   have kb : ((fwd h.first C (p + 1 + 1)).hi < (fwd h.first C (p + 1 + 1)).lo) = False := eq_false b
   simp (maxSteps := 1000000) only [xE_ty, xE_fn, xE_bin, xE_oi, xE_oc, xE_ok, VL, VM, ↓VG, reduceIte, reduceCtorEq, zA, zB, zC, zD, zE, zF, zG, zH, zI, zJ, hg2, k1, k0, kn, g1, g2, u1, kb]
   ((repeat refine W_seq ?_); refine W_cond (b := false) (by first | rfl | simp only [ev, get_cons, Nat.reduceEqDiff, if_true, if_false, reduceIte]) (fun h => by cases h) (fun _ => ?_))
   ((repeat refine W_seq ?_); refine W_skip ?_)
   simp (maxSteps := 1000000) only [xE_ty, xE_fn, xE_bin, xE_oi, xE_oc, xE_ok, VL, VM, ↓VG, reduceIte, reduceCtorEq, zA, zB, zC, zD, zE, zF, zG, zH, zI, zJ]
   ((repeat refine W_seq ?_); refine W_region0 TE_ok ?_)
   simp (maxSteps := 1000000) only [xE_ty, xE_fn, xE_bin, xE_oi, xE_oc, xE_ok, VL, VM, ↓VG, reduceIte, reduceCtorEq, zA, zB, zC, zD, zE, zF, zG, zH, zI, zJ, k1]
   refine LoopK.mk ⟨p + 1 + 1, L.length + 2, L2⟩ (by simp only; omega) ⟨hlt, fun _ => hg2, fun t ht => ?_⟩ ⟨rfl, rfl, rfl, rfl, trivial⟩ rfl
   rcases Nat.lt_succ_iff_lt_or_eq.1 ht with q | q
   ·exact hno t q
   ·rw [q]; exact b
 have k2 : ((i : Int) < h.ticks) = False := eq_false (by omega)
 have hi3 : i = T' := by omega
 subst hi3
 have hR2 : insR h = .tup [spsV (insideL h.first C i), vb true] := by rw [hR, bad_false hno]; rfl
 have hbb := bwd_bd V.first hCb i
 have kt : -9223372036854775808 ≤ h.ticks - 1 ∧ h.ticks - 1 < 9223372036854775808 := by omega
 have kt2 : vi (h.ticks - 1) = vi ((i : Int) - 1 - ((0 : Nat) : Int)) := by rw [show h.ticks - 1 = (i : Int) - 1 - ((0 : Nat) : Int) by omega]
 simp (maxSteps := 1000000) only [xE_ty, xE_fn, xE_bin, xE_oi, xE_oc, xE_ok, VL, VM, ↓VG, reduceIte, reduceCtorEq, zA, zB, zC, zD, zE, zF, zG, zH, zI, zJ, k2]
 ((repeat refine W_seq ?_); refine W_cond (b := false) (by first | rfl | simp only [ev, get_cons, Nat.reduceEqDiff, if_true, if_false, reduceIte]) (fun h => by cases h) (fun _ => ?_))
 ((repeat refine W_seq ?_); refine W_exit ?_)
 simp (maxSteps := 1000000) only [xE_ty, xE_fn, xE_bin, xE_oi, xE_oc, xE_ok, VL, VM, ↓VG, reduceIte, reduceCtorEq, zA, zB, zC, zD, zE, zF, zG, zH, zI, zJ]
 clear hR hno k1 k0 kn k2 hge hi
 ((repeat refine W_seq ?_); refine W_region0 TE_ok ?_)
 simp (maxSteps := 1000000) only [xE_ty, xE_fn, xE_bin, xE_oi, xE_oc, xE_ok, VL, VM, ↓VG, reduceIte, reduceCtorEq, zA, zB, zC, zD, zE, zF, zG, zH, zI, zJ, kt]
 ((repeat refine W_seq ?_); refine W_block ?_; (repeat refine W_seq ?_)); refine W_loopS (fun s : InSt => [(0, houseV h), (1, .ptr M.H.length 0), (4, ovR M.H.length h.first i tl), (8, vi ((i : Int) - 1 - (s.i : Int)))]) (fun s => ⟨M.H ++ (.obj (houseC h) :: s.L), M.lg⟩) (fun s => i - s.i) (fun s => s.i ≤ i ∧ (i ≠ 0 → s.L[tl]? = some (.obj (spCs (bwL h.first C i s.i))))) ⟨0, 0, L⟩ ⟨Nat.zero_le _, fun q => by rw [bwL_zero]; exact hL q⟩ ⟨rfl, rfl, rfl, kt2, trivial⟩ rfl ?_
 clear hL kt2
 rintro ⟨j, _, L⟩ ⟨hj, hL⟩
 simp only at hj hL
 ((repeat refine W_seq ?_); refine W_region0 TE_ok ?_)
 rcases Nat.lt_or_ge j i with hlt | hge
 ·obtain ⟨p, rfl⟩ : ∃ p, i = p + 1 := ⟨i - 1, by omega⟩
  obtain ⟨m, hm⟩ : ∃ m, m + j = p := ⟨p - j, by omega⟩
  have k2 : (0 ≤ ((p + 1 : Nat) : Int) - 1 - (j : Int)) = True := eq_true (by omega)
  have hkm : ((p + 1 : Nat) : Int) - 1 - (j : Int) = (m : Int) := by omega
  have hL1 := hL (by omega)
  have htl := lt_of_get hL1
  have e1 : ∀ Y, (L ++ Y)[tl]? = some (.obj (spCs (bwL h.first C (p + 1) j))) := fun Y => get_app hL1
  have e2 : ∀ Y x, (L ++ Y).set tl x = L.set tl x ++ Y := fun Y x => List.set_append_left _ _ htl
  have hlen : (spCs (bwL h.first C (p + 1) j)).length = (p + 2) * 2 := by rw [spCs_len, bwL_len]
  have a1 := bwL_at (first := h.first) (C := C) (T := p + 1) (j := j) (t := m) (by omega)
  rw [if_neg (by omega)] at a1
  have a2 := bwL_at (first := h.first) (C := C) (T := p + 1) (j := j) (t := m + 1) (by omega)
  rw [if_pos (by omega), show p + 1 - (m + 1) = j by omega] at a2
  have b1 := spCs_get a1
  have b1h := b1.2
  have b1 := b1.1
  have b2 := spCs_at a2
  have k1 : -9223372036854775808 ≤ (m : Int) + 1 ∧ (m : Int) + 1 < 9223372036854775808 := by omega
  have k0 : 0 ≤ (m : Int) + 1 := by omega
  have kn : ((m : Int) + 1).toNat = m + 1 := by omega
  have k3 : -9223372036854775808 ≤ (m : Int) - 1 ∧ (m : Int) - 1 < 9223372036854775808 := by omega
  have u1 : (m < p + 2) = True := eq_true (by omega)
  have u2 : (m + 1 < p + 2) = True := eq_true (by omega)
  have u3 : (m * 2 + 2 ≤ (p + 2) * 2) = True := eq_true (by omega)
  have u4 : ((m + 1) * 2 + 2 ≤ (p + 2) * 2) = True := eq_true (by omega)
  have hb1 := hfb m
  have hb2 := hCb m
  have hb3 := hbb j (by omega)
  have q1 : -9223372036854775808 ≤ (bwd h.first C (p + 1) j).lo - (C m).hi ∧ (bwd h.first C (p + 1) j).lo - (C m).hi < 9223372036854775808 := by omega
  have q2 : -9223372036854775808 ≤ (bwd h.first C (p + 1) j).hi - (C m).lo ∧ (bwd h.first C (p + 1) j).hi - (C m).lo < 9223372036854775808 := by omega
  have ef : bwd h.first C (p + 1) (j + 1) = ⟨max (fwd h.first C m).lo ((bwd h.first C (p + 1) j).lo - (C m).hi), min (fwd h.first C m).hi ((bwd h.first C (p + 1) j).hi - (C m).lo)⟩ := by
   simp only [bwd, show p + 1 - (j + 1) = m by omega]
  have el : max (fwd h.first C m).lo ((bwd h.first C (p + 1) j).lo - (C m).hi) = (bwd h.first C (p + 1) (j + 1)).lo := by rw [ef]
  have eh : min (fwd h.first C m).hi ((bwd h.first C (p + 1) j).hi - (C m).lo) = (bwd h.first C (p + 1) (j + 1)).hi := by rw [ef]
  have hst := bwL_set (first := h.first) (C := C) (T := p + 1) (j := j) (m := m) (by omega)
  have c4 := spCs_set (l := bwL h.first C (p + 1) j) (k := m) (bwd h.first C (p + 1) (j + 1)) (by rw [bwL_len]; omega)
  rw [hst] at c4
  have hfin : vi ((m : Int) - 1) = vi (((p + 1 : Nat) : Int) - 1 - ((j + 1 : Nat) : Int)) := by rw [show (m : Int) - 1 = ((p + 1 : Nat) : Int) - 1 - ((j + 1 : Nat) : Int) by omega]
  simp (maxSteps := 1000000) only [xE_ty, xE_fn, xE_bin, xE_oi, xE_oc, xE_ok, VL, VM, ↓VG, reduceIte, reduceCtorEq, zA, zB, zC, zD, zE, zF, zG, zH, zI, zJ, k2]
  ((repeat refine W_seq ?_); refine W_cond (b := true) (by first | rfl | simp only [ev, get_cons, Nat.reduceEqDiff, if_true, if_false, reduceIte]) (fun _ => ?_) (fun h => by cases h))
  ((repeat refine W_seq ?_); refine W_skip ?_)
  simp (maxSteps := 1000000) only [xE_ty, xE_fn, xE_bin, xE_oi, xE_oc, xE_ok, VL, VM, ↓VG, reduceIte, reduceCtorEq, zA, zB, zC, zD, zE, zF, zG, zH, zI, zJ]
  ((repeat refine W_seq ?_); refine W_block ?_)
  (repeat refine W_seq ?_)
  refine W_drawP TE_ok [VObj.obj [vi 0, vi 0], VObj.obj [vi 0, vi 0]] (by kernel_rfl) (by kernel_rfl) ?_
  generalize hi : mkPlan _ = infs
  cbv at hi
  subst hi
  simp (maxSteps := 1000000) only [xE_ty, xE_fn, xE_bin, xE_oi, xE_oc, xE_ok, VL, VM, ↓VG, reduceIte, reduceCtorEq, zA, zB, zC, zD, zE, zF, zG, zH, zI, zJ, ovR_succ, hkm, hL1, e1, hlen, b2, k0, k1, kn, u2, u4]
  apply call_d (f := 88) (fn := Try.f88) (by kernel_rfl) (by rfl)
  ·exact hCh m _
  simp (maxSteps := 1000000) only [xE_ty, xE_fn, xE_bin, xE_oi, xE_oc, xE_ok, VL, VM, ↓VG, reduceIte, reduceCtorEq, zA, zB, zC, zD, zE, zF, zG, zH, zI, zJ, ovR_succ, hkm, hL1, e1, hlen, b2, k0, k1, kn, u2, u4]
  (repeat refine W_seq ?_)
  refine W_drawP TE_ok [] (by kernel_rfl) (by kernel_rfl) ?_
  generalize hi : mkPlan _ = infs
  cbv at hi
  subst hi
  simp (maxSteps := 1000000) only [xE_ty, xE_fn, xE_bin, xE_oi, xE_oc, xE_ok, VL, VM, ↓VG, reduceIte, reduceCtorEq, zA, zB, zC, zD, zE, zF, zG, zH, zI, zJ, ovR_succ, hkm, e1, e2, hlen, b1, b1h, q1, q2, u1, u3, el, eh, c4]
  ((repeat refine W_seq ?_); refine W_region0 TE_ok ?_)
  simp (maxSteps := 1000000) only [xE_ty, xE_fn, xE_bin, xE_oi, xE_oc, xE_ok, VL, VM, ↓VG, reduceIte, reduceCtorEq, zA, zB, zC, zD, zE, zF, zG, zH, zI, zJ, hkm, k3]
  refine LoopK.mk ⟨j + 1, 0, L.set tl (.obj (spCs (bwL h.first C (p + 1) (j + 1)))) ++ [.obj [vi (bwd h.first C (p + 1) j).lo, vi (bwd h.first C (p + 1) j).hi], .obj [vi (C m).lo, vi (C m).hi]]⟩ (by simp only; omega) ⟨hlt, get_app (List.getElem?_set_self htl)⟩ ⟨rfl, rfl, rfl, hfin, trivial⟩ rfl
 have k2 : (0 ≤ (i : Int) - 1 - (j : Int)) = False := eq_false (by omega)
 have hj3 : j = i := by omega
 subst hj3
 simp (maxSteps := 1000000) only [xE_ty, xE_fn, xE_bin, xE_oi, xE_oc, xE_ok, VL, VM, ↓VG, reduceIte, reduceCtorEq, zA, zB, zC, zD, zE, zF, zG, zH, zI, zJ, k2]
 ((repeat refine W_seq ?_); refine W_cond (b := false) (by first | rfl | simp only [ev, get_cons, Nat.reduceEqDiff, if_true, if_false, reduceIte]) (fun h => by cases h) (fun _ => ?_))
 ((repeat refine W_seq ?_); refine W_exit ?_)
 simp (maxSteps := 1000000) only [xE_ty, xE_fn, xE_bin, xE_oi, xE_oc, xE_ok, VL, VM, ↓VG, reduceIte, reduceCtorEq, zA, zB, zC, zD, zE, zF, zG, zH, zI, zJ]
 ((repeat refine W_seq ?_); refine W_region0 TE_ok ?_)
 simp (maxSteps := 1000000) only [xE_ty, xE_fn, xE_bin, xE_oi, xE_oc, xE_ok, VL, VM, ↓VG, reduceIte, reduceCtorEq, zA, zB, zC, zD, zE, zF, zG, zH, zI, zJ]
 (repeat refine W_seq ?_)
 refine W_ret ?_
 try simp only [thenQ, blockQ]
 refine own_ret (vs := [ovR M.H.length h.first j tl, vb true]) (r := .tup [spsV (insideL h.first C j), vb true]) rfl ?_ (by simp [refs, refsL]) ⟨rfl, hR2.symm⟩
 have h3t : ∀ (n : Nat) (H : List VObj) (a b : VV), frz n H (.tup [a, b]) = .tup [frz n H a, frz n H b] := fun n H a b => by rw [frz, frzL, frzL, frzL]
 show frz _ _ (.tup [_, _]) = _
 rw [h3t]
 have : frz M.H.length (M.H ++ VObj.obj (houseC h) :: L) (ovR M.H.length h.first j tl) = spsV (insideL h.first C j) := by
  rcases j with _ | p
  ·rfl
  ·have := frz_spans (n0 := M.H.length) (id := M.H.length + (tl + 1)) (H := M.H ++ VObj.obj (houseC h) :: L) (l := bwL h.first C (p + 1) (p + 1)) (by omega) (by rw [hget]; exact hL (by omega))
   rw [bwL_len] at this
   rw [ovR_succ, ← bwL_end]
   exact this
 rw [this]
 rfl
end Go.Proofs.Ytmagiabapakhcaa.Vm

/- The reference: Inside, on values. (Vm) -/
namespace Go.Proofs.Ytmagiabapakhcaa.Vm
open Go Go.Proofs
theorem Inside_r (h : Ho) (M : Mem) (hl : h.holds.length ≤ 1000000) (hld : h.doors.length ≤ 1000000) (hlc : h.counts.length ≤ 1000000) : VC Try.prog 23 [houseV h] M (fun r M' => M' = M ∧ r = insideR h) := by
 refine VC_own' T_ok (f := 23) (fn := Try.f23) (by kernel_rfl) rfl Try.ntmps23 (by rfl) (by rfl) ?_
 ((repeat refine W_seq ?_); refine W_region0 T_ok ?_)
 simp (maxSteps := 1000000) only [VL, VM, ↓VG, reduceIte, reduceCtorEq, zA, zB, zC, zD, zE, zF, zG, zH, zI, zJ]
 ((repeat refine W_seq ?_); refine W_region0 T_ok ?_)
 simp (maxSteps := 1000000) only [VL, VM, ↓VG, reduceIte, reduceCtorEq, zA, zB, zC, zD, zE, zF, zG, zH, zI, zJ]
 apply call_eq (f := 25) (fn := Try.f25) (by kernel_rfl) (by rfl)
 ·exact check_r h _ hl hld hlc
 simp (maxSteps := 1000000) only [VL, VM, ↓VG, reduceIte, reduceCtorEq, zA, zB, zC, zD, zE, zF, zG, zH, zI, zJ]
 ((repeat refine W_seq ?_); refine W_region0 T_ok ?_)
 by_cases a1 : houseErr h = 0
 rotate_left
 ·simp (maxSteps := 1000000) only [VL, VM, ↓VG, reduceIte, reduceCtorEq, zA, zB, zC, zD, zE, zF, zG, zH, zI, zJ, a1]
  ((repeat refine W_seq ?_); refine W_cond (b := true) (by first | rfl | simp only [ev, get_cons, Nat.reduceEqDiff, if_true, if_false, reduceIte]) (fun _ => ?_) (fun h => by cases h))
  ((repeat refine W_seq ?_); refine W_region0 T_ok ?_)
  simp (maxSteps := 1000000) only [VL, VM, ↓VG, reduceIte, reduceCtorEq, zA, zB, zC, zD, zE, zF, zG, zH, zI, zJ]
  (repeat refine W_seq ?_)
  refine W_ret ?_
  try simp only [thenQ, blockQ]
  refine own_ret (vs := [.sf 0 [], vi (houseErr h)]) (r := .tup [.p (.sl 0 []), vi (houseErr h)]) rfl (by simp [vtup, frz, frzL]) (by simp [refs, refsL]) ⟨rfl, ?_⟩
  unfold insideR
  rw [if_neg a1]
 simp (maxSteps := 1000000) only [VL, VM, ↓VG, reduceIte, reduceCtorEq, zA, zB, zC, zD, zE, zF, zG, zH, zI, zJ, a1]
 ((repeat refine W_seq ?_); refine W_cond (b := false) (by first | rfl | simp only [ev, get_cons, Nat.reduceEqDiff, if_true, if_false, reduceIte]) (fun h => by cases h) (fun _ => ?_))
 ((repeat refine W_seq ?_); refine W_skip ?_)
 simp (maxSteps := 1000000) only [VL, VM, ↓VG, reduceIte, reduceCtorEq, zA, zB, zC, zD, zE, zF, zG, zH, zI, zJ]
 ((repeat refine W_seq ?_); refine W_region0 T_ok ?_)
 simp (maxSteps := 1000000) only [VL, VM, ↓VG, reduceIte, reduceCtorEq, zA, zB, zC, zD, zE, zF, zG, zH, zI, zJ]
 apply call_eq (f := 66) (fn := Try.f66) (by kernel_rfl) (by rfl)
 ·exact inside_r h (houseErr_ok.1 a1) _
 have hR : insideR h = (match insideH h with
  | some l => .tup [spsV l, vi 0]
  | none => .tup [.p (.sl 0 []), vi 9]) := if_pos a1
 unfold insR
 cases hi : insideH h with
 | none =>
  rw [hi] at hR
  simp (maxSteps := 1000000) only [VL, VM, ↓VG, reduceIte, reduceCtorEq, zA, zB, zC, zD, zE, zF, zG, zH, zI, zJ]
  ((repeat refine W_seq ?_); refine W_region0 T_ok ?_)
  simp (maxSteps := 1000000) only [VL, VM, ↓VG, reduceIte, reduceCtorEq, zA, zB, zC, zD, zE, zF, zG, zH, zI, zJ]
  ((repeat refine W_seq ?_); refine W_cond (b := true) (by first | rfl | simp only [ev, get_cons, Nat.reduceEqDiff, if_true, if_false, reduceIte]) (fun _ => ?_) (fun h => by cases h))
  ((repeat refine W_seq ?_); refine W_region0 T_ok ?_)
  simp (maxSteps := 1000000) only [VL, VM, ↓VG, reduceIte, reduceCtorEq, zA, zB, zC, zD, zE, zF, zG, zH, zI, zJ]
  (repeat refine W_seq ?_)
  refine W_ret ?_
  try simp only [thenQ, blockQ]
  refine own_ret (vs := [.sf 0 [], vi 9]) (r := .tup [.p (.sl 0 []), vi 9]) rfl (by simp [vtup, frz, frzL]) (by simp [refs, refsL]) ⟨rfl, hR.symm⟩
 | some l =>
  rw [hi] at hR
  simp (maxSteps := 1000000) only [VL, VM, ↓VG, reduceIte, reduceCtorEq, zA, zB, zC, zD, zE, zF, zG, zH, zI, zJ]
  ((repeat refine W_seq ?_); refine W_region0 T_ok ?_)
  simp (maxSteps := 1000000) only [VL, VM, ↓VG, reduceIte, reduceCtorEq, zA, zB, zC, zD, zE, zF, zG, zH, zI, zJ]
  ((repeat refine W_seq ?_); refine W_cond (b := false) (by first | rfl | simp only [ev, get_cons, Nat.reduceEqDiff, if_true, if_false, reduceIte]) (fun h => by cases h) (fun _ => ?_))
  ((repeat refine W_seq ?_); refine W_skip ?_)
  simp (maxSteps := 1000000) only [VL, VM, ↓VG, reduceIte, reduceCtorEq, zA, zB, zC, zD, zE, zF, zG, zH, zI, zJ]
  ((repeat refine W_seq ?_); refine W_region0 T_ok ?_)
  simp (maxSteps := 1000000) only [VL, VM, ↓VG, reduceIte, reduceCtorEq, zA, zB, zC, zD, zE, zF, zG, zH, zI, zJ]
  (repeat refine W_seq ?_)
  refine W_ret ?_
  try simp only [thenQ, blockQ]
  refine own_ret (vs := [spsV l, vi 0]) (r := .tup [spsV l, vi 0]) rfl (by simp [vtup, frz, frzL]) (by simp [refs, refsL]) ⟨rfl, hR.symm⟩
end Go.Proofs.Ytmagiabapakhcaa.Vm

/- Houses and kitchens that are copied, and compared with what they were copied from, on values. (Vm) -/
namespace Go.Proofs.Ytmagiabapakhcaa.Vm
open Go Go.Proofs
theorem copyInts_v (xs : List Int) (M : Mem) (hl : xs.length ≤ 1000000) : VC Try.prog 31 [intsV xs] M (fun r M' => M' = M ∧ r = intsV xs) := by
 have q1 : (xs.length * 8 ≤ 140737488355328) = True := eq_true (by omega)
 refine VC_own' T_ok (f := 31) (fn := Try.f31) (by kernel_rfl) rfl Try.ntmps31 (by rfl) (by rfl) ?_
 ((repeat refine W_seq ?_); refine W_region0 T_ok ?_)
 simp (maxSteps := 1000000) only [VL, VM, ↓VG, reduceIte, reduceCtorEq, zA, zB, zC, zD, zE, zF, zG, zH, zI, zJ]
 ((repeat refine W_seq ?_); refine W_region0 T_ok ?_)
 simp (maxSteps := 1000000) only [VL, VM, ↓VG, reduceIte, reduceCtorEq, zA, zB, zC, zD, zE, zF, zG, zH, zI, zJ, q1]
 (repeat refine W_seq ?_)
 refine W_ret ?_
 try simp only [thenQ, blockQ]
 refine own_ret1 rfl ?_ (by rfl)
 simp only [get_cons, frz, vtup, Nat.reduceEqDiff, if_true, if_false, reduceIte]
theorem copyHouse_v (h : Ho) (M : Mem) (hm : h.holds.length ≤ 1000000) (hg : h.doors.length ≤ 1000000) (hc : h.counts.length ≤ 1000000) : VC Try.prog 21 [houseV h] M (fun r M' => M' = M ∧ r = houseV h) := by
 have q1 : (h.doors.length * 24 ≤ 140737488355328) = True := eq_true (by omega)
 have q2 : (h.counts.length * 48 ≤ 140737488355328) = True := eq_true (by omega)
 refine VC_own' T_ok (f := 21) (fn := Try.f21) (by kernel_rfl) rfl Try.ntmps21 (by rfl) (by rfl) ?_
 ((repeat refine W_seq ?_); refine W_region0 T_ok ?_)
 simp (maxSteps := 1000000) only [VL, VM, ↓VG, reduceIte, reduceCtorEq, zA, zB, zC, zD, zE, zF, zG, zH, zI, zJ]
 (repeat refine W_seq ?_)
 refine W_drawP T_ok [] (by kernel_rfl) (by kernel_rfl) ?_
 generalize hi : mkPlan _ = infs
 cbv at hi
 subst hi
 simp (maxSteps := 1000000) only [VL, VM, ↓VG, reduceIte, reduceCtorEq, zA, zB, zC, zD, zE, zF, zG, zH, zI, zJ, q1, q2]
 apply call_d (f := 31) (fn := Try.f31) (by kernel_rfl) (by rfl)
 ·exact copyInts_v h.holds _ hm
 simp (maxSteps := 1000000) only [VL, VM, ↓VG, reduceIte, reduceCtorEq, zA, zB, zC, zD, zE, zF, zG, zH, zI, zJ, q1, q2]
 ((repeat refine W_seq ?_); refine W_region0 T_ok ?_)
 simp (maxSteps := 1000000) only [VL, VM, ↓VG, reduceIte, reduceCtorEq, zA, zB, zC, zD, zE, zF, zG, zH, zI, zJ]
 (repeat refine W_seq ?_)
 refine W_ret ?_
 try simp only [thenQ, blockQ]
 obtain ⟨X1, h1, g1⟩ := addLg_Y M.H.length [M.H.length + 2] M.lg
 obtain ⟨X2, h2, g2⟩ := addLg_Y M.H.length [M.H.length + 3] (addLg M.H.length [M.H.length + 2] M.lg)
 refine ⟨.inr (by trivial), by trivial, ⟨X1 ++ X2, by rw [h2, h1, List.append_assoc], fun e he => ?_⟩, M.H, _, rfl, rfl, [houseV h], ?_, houseV h, by rfl, by simp [refs, refsL], rfl, rfl⟩
 ·rcases List.mem_append.1 he with he | he
  ·have := (g1 e he).1; omega
  ·have := (g2 e he).1; omega
 simp [Try.f21, vresL, vload, t_house, get_cons, hget, hget0, nat_ble, strip1]
/-- a house is the same as itself -/
theorem sameHouse_v (h : Ho) (M : Mem) (hm : h.holds.length ≤ 1000000) (hg : h.doors.length ≤ 1000000) (hc : h.counts.length ≤ 1000000) : VC Try.prog 27 [houseV h, houseV h] M (fun r M' => M' = M ∧ r = vb true) := by
 refine VC_own' T_ok (f := 27) (fn := Try.f27) (by kernel_rfl) rfl Try.ntmps27 (by rfl) (by rfl) ?_
 ((repeat refine W_seq ?_); refine W_region0 T_ok ?_)
 simp (maxSteps := 1000000) only [VL, VM, ↓VG, reduceIte, reduceCtorEq, zA, zB, zC, zD, zE, zF, zG, zH, zI, zJ]
 ((repeat refine W_seq ?_); refine W_region0 T_ok ?_)
 simp (maxSteps := 1000000) only [VL, VM, ↓VG, reduceIte, reduceCtorEq, zA, zB, zC, zD, zE, zF, zG, zH, zI, zJ]
 apply call_eq (f := 34) (fn := Try.f34) (by kernel_rfl) (by rfl)
 ·exact sameInts_v h.holds h.holds _ hm
 have es : vbin T .eql 25 (spV h.first) (spV h.first) = some (vb true) := by rw [v_eqSpan]; simp
 simp (maxSteps := 1000000) only [VL, VM, ↓VG, reduceIte, reduceCtorEq, zA, zB, zC, zD, zE, zF, zG, zH, zI, zJ, es]
 ((repeat refine W_seq ?_); refine W_region0 T_ok ?_)
 simp (maxSteps := 1000000) only [VL, VM, ↓VG, reduceIte, reduceCtorEq, zA, zB, zC, zD, zE, zF, zG, zH, zI, zJ]
 ((repeat refine W_seq ?_); refine W_block ?_; (repeat refine W_seq ?_)); refine W_loopS (fun i : Nat => [(2, .ptr M.H.length 0), (3, .ptr (M.H.length + 1) 0), (5, vb true), (6, vi i)]) (fun _ => ⟨M.H ++ [.obj (houseC h), .obj (houseC h)], M.lg⟩) (fun i => h.doors.length - i) (fun i => i ≤ h.doors.length) 0 (Nat.zero_le _) ⟨rfl, rfl, rfl, rfl, trivial⟩ rfl ?_
 intro i hi
 have k1 : -9223372036854775808 ≤ (i : Int) + 1 ∧ (i : Int) + 1 < 9223372036854775808 := by omega
 ((repeat refine W_seq ?_); refine W_region0 T_ok ?_)
 rcases Nat.lt_or_ge i h.doors.length with hlt | hge
 ·have k2 : ((i : Int) < (h.doors.length : Int)) = True := eq_true (by omega)
  have hx : h.doors[i]? = some h.doors[i] := List.getElem?_eq_getElem hlt
  generalize h.doors[i] = x at hx
  have hx' := map_at (f := doP) hx
  have es : vbin T .eql 79 (doV x) (doV x) = some (vb true) := by rw [v_eqDoor]; simp
  simp (maxSteps := 1000000) only [VL, VM, ↓VG, reduceIte, reduceCtorEq, zA, zB, zC, zD, zE, zF, zG, zH, zI, zJ, k2]
  ((repeat refine W_seq ?_); refine W_cond (b := true) (by first | rfl | simp only [ev, get_cons, Nat.reduceEqDiff, if_true, if_false, reduceIte]) (fun _ => ?_) (fun h => by cases h))
  ((repeat refine W_seq ?_); refine W_skip ?_)
  simp (maxSteps := 1000000) only [VL, VM, ↓VG, reduceIte, reduceCtorEq, zA, zB, zC, zD, zE, zF, zG, zH, zI, zJ]
  ((repeat refine W_seq ?_); refine W_block ?_)
  (repeat refine W_seq ?_)
  refine W_drawP T_ok [] (by kernel_rfl) (by kernel_rfl) ?_
  generalize hi : mkPlan _ = infs
  cbv at hi
  subst hi
  simp (maxSteps := 1000000) only [VL, VM, ↓VG, reduceIte, reduceCtorEq, zA, zB, zC, zD, zE, zF, zG, zH, zI, zJ, hx', es]
  ((repeat refine W_seq ?_); refine W_region0 T_ok ?_)
  simp (maxSteps := 1000000) only [VL, VM, ↓VG, reduceIte, reduceCtorEq, zA, zB, zC, zD, zE, zF, zG, zH, zI, zJ, k1]
  exact LoopK.mk (i + 1) (by omega) (by omega) ⟨rfl, rfl, rfl, rfl, trivial⟩ rfl
 have k2 : ((i : Int) < (h.doors.length : Int)) = False := eq_false (by omega)
 simp (maxSteps := 1000000) only [VL, VM, ↓VG, reduceIte, reduceCtorEq, zA, zB, zC, zD, zE, zF, zG, zH, zI, zJ, k2]
 ((repeat refine W_seq ?_); refine W_cond (b := false) (by first | rfl | simp only [ev, get_cons, Nat.reduceEqDiff, if_true, if_false, reduceIte]) (fun h => by cases h) (fun _ => ?_))
 ((repeat refine W_seq ?_); refine W_exit ?_)
 simp (maxSteps := 1000000) only [VL, VM, ↓VG, reduceIte, reduceCtorEq, zA, zB, zC, zD, zE, zF, zG, zH, zI, zJ]
 clear hge k2 k1 hi
 ((repeat refine W_seq ?_); refine W_region0 T_ok ?_)
 simp (maxSteps := 1000000) only [VL, VM, ↓VG, reduceIte, reduceCtorEq, zA, zB, zC, zD, zE, zF, zG, zH, zI, zJ]
 ((repeat refine W_seq ?_); refine W_block ?_; (repeat refine W_seq ?_)); refine W_loopS (fun i : Nat => [(2, .ptr M.H.length 0), (3, .ptr (M.H.length + 1) 0), (5, vb true), (7, vi i)]) (fun _ => ⟨M.H ++ [.obj (houseC h), .obj (houseC h)], M.lg⟩) (fun i => h.counts.length - i) (fun i => i ≤ h.counts.length) 0 (Nat.zero_le _) ⟨rfl, rfl, rfl, rfl, trivial⟩ rfl ?_
 intro i hi
 have k1 : -9223372036854775808 ≤ (i : Int) + 1 ∧ (i : Int) + 1 < 9223372036854775808 := by omega
 ((repeat refine W_seq ?_); refine W_region0 T_ok ?_)
 rcases Nat.lt_or_ge i h.counts.length with hlt | hge
 ·have k2 : ((i : Int) < (h.counts.length : Int)) = True := eq_true (by omega)
  have hx : h.counts[i]? = some h.counts[i] := List.getElem?_eq_getElem hlt
  generalize h.counts[i] = x at hx
  have hx' := map_at (f := coP) hx
  have es : vbin T .eql 30 (coV x) (coV x) = some (vb true) := by rw [v_eqCount]; simp
  simp (maxSteps := 1000000) only [VL, VM, ↓VG, reduceIte, reduceCtorEq, zA, zB, zC, zD, zE, zF, zG, zH, zI, zJ, k2]
  ((repeat refine W_seq ?_); refine W_cond (b := true) (by first | rfl | simp only [ev, get_cons, Nat.reduceEqDiff, if_true, if_false, reduceIte]) (fun _ => ?_) (fun h => by cases h))
  ((repeat refine W_seq ?_); refine W_skip ?_)
  simp (maxSteps := 1000000) only [VL, VM, ↓VG, reduceIte, reduceCtorEq, zA, zB, zC, zD, zE, zF, zG, zH, zI, zJ]
  ((repeat refine W_seq ?_); refine W_block ?_)
  (repeat refine W_seq ?_)
  refine W_drawP T_ok [] (by kernel_rfl) (by kernel_rfl) ?_
  generalize hi : mkPlan _ = infs
  cbv at hi
  subst hi
  simp (maxSteps := 1000000) only [VL, VM, ↓VG, reduceIte, reduceCtorEq, zA, zB, zC, zD, zE, zF, zG, zH, zI, zJ, hx', es]
  ((repeat refine W_seq ?_); refine W_region0 T_ok ?_)
  simp (maxSteps := 1000000) only [VL, VM, ↓VG, reduceIte, reduceCtorEq, zA, zB, zC, zD, zE, zF, zG, zH, zI, zJ, k1]
  exact LoopK.mk (i + 1) (by omega) (by omega) ⟨rfl, rfl, rfl, rfl, trivial⟩ rfl
 have k2 : ((i : Int) < (h.counts.length : Int)) = False := eq_false (by omega)
 simp (maxSteps := 1000000) only [VL, VM, ↓VG, reduceIte, reduceCtorEq, zA, zB, zC, zD, zE, zF, zG, zH, zI, zJ, k2]
 ((repeat refine W_seq ?_); refine W_cond (b := false) (by first | rfl | simp only [ev, get_cons, Nat.reduceEqDiff, if_true, if_false, reduceIte]) (fun h => by cases h) (fun _ => ?_))
 ((repeat refine W_seq ?_); refine W_exit ?_)
 simp (maxSteps := 1000000) only [VL, VM, ↓VG, reduceIte, reduceCtorEq, zA, zB, zC, zD, zE, zF, zG, zH, zI, zJ]
 ((repeat refine W_seq ?_); refine W_region0 T_ok ?_)
 simp (maxSteps := 1000000) only [VL, VM, ↓VG, reduceIte, reduceCtorEq, zA, zB, zC, zD, zE, zF, zG, zH, zI, zJ]
 (repeat refine W_seq ?_)
 refine W_ret ?_
 try simp only [thenQ, blockQ]
 refine own_ret (vs := [vb true]) rfl ?_ (by rfl) ⟨rfl, rfl⟩
 rfl
end Go.Proofs.Ytmagiabapakhcaa.Vm

/- A cell of an object that is known in another way; slices that others lead to, and that grow. (Vm) -/
namespace Go.Proofs.Ytmagiabapakhcaa.Vm
open Go Go.Proofs
section
variable {P : Program} {T : Tab} {cx : Cx} {e : Env} {M : Mem} {D : List Nat} {Q : PQ} {c : Code}
/-- a cell of an object, known in another way -/
theorem W_cell {id off : Nat} {cs : List VV} {x y : VV} (ho : M.H[id]? = some (.obj cs)) (hc : cs[off]? = some x) (hr : ∀ r ∈ refs y, r ∈ refs x) (hk : ∀ w K v, RepV w K M.H v x → RepV w K M.H v y)
  (h : WCode P cx c e ⟨M.H.set id (.obj (cs.set off y)), M.lg⟩ D Q) : WCode P cx c e M D Q := by
 intro G w K a hs
 have i1 := hs.inv
 have hil := (List.getElem?_eq_some_iff.1 ho).1
 obtain ⟨H2, hH2⟩ : ∃ H2, H2 = M.H.set id (.obj (cs.set off y)) := ⟨_, rfl⟩
 rw [← hH2] at h
 have hl2 : H2.length = M.H.length := by rw [hH2]; simp
 have hs2 : ∀ i x, H2[i]? = some x → (i = id ∧ x = .obj (cs.set off y)) ∨ (i ≠ id ∧ M.H[i]? = some x) := fun i x hx => by
  rw [hH2] at hx
  rcases set_get hx with ⟨rfl, rfl, _⟩ | ⟨b1, b2⟩
  ·exact .inl ⟨rfl, rfl⟩
  ·exact .inr ⟨b1, b2⟩
 have hE : Ext w K M.H w K H2 := by
  refine ⟨Nat.le_refl _, Szp.refl _, fun b q _ him i ob hi hb => ?_, fun _ _ _ _ => rfl, fun i x hi => ?_⟩
  ·rcases hs2 i ob hi with ⟨rfl, rfl⟩ | ⟨_, h2⟩
   ·rcases him i _ ho hb with e2 | ⟨m, k', e2, _⟩
    ·exact e2.elim
    ·cases e2
   ·exact him i ob h2 hb
  ·by_cases hid : i = id
   ·subst hid
    rw [ho] at hi
    cases hi
    exact ⟨_, by rw [hH2, List.getElem?_set_self hil], fun _ _ e => VObj.noConfusion e, rfl⟩
   ·exact ⟨x, by rw [hH2, List.getElem?_set_ne (Ne.symm hid)]; exact hi, objLe_same rfl fun b _ => rfl⟩
 have hI2 : Inv G w K { H := H2, lg := M.lg } := by
  refine ⟨i1.os, i1.tape, i1.output, i1.size, i1.gB, i1.old, inj_set i1 hl2 (fun i hg => by
   by_cases e1 : i = id
   ·rw [e1, ho]; simp
   ·rw [hH2, List.getElem?_set_ne (fun h => e1 h.symm)] at hg
    exact hg), fun i b hi => i1.blk i b (by simpa [hl2] using hi), fun i x hi => ?_, fun i x hi cc hcc r hr2 => ?_, fun en hen => ?_, fun i L hi => ?_⟩
  ·rcases hs2 i x hi with ⟨rfl, rfl⟩ | ⟨_, h2⟩
   ·intro b hb
    obtain ⟨vs, t, q1, q2, q3⟩ := i1.obj i _ ho b hb
    refine ⟨vs, t, q1, by simpa using q2, fun l v cv hv hcv => ?_⟩
    rw [List.getElem?_set] at hcv
    by_cases hj : off = l
    ·subst hj
     have hlt := (List.getElem?_eq_some_iff.1 hc).1
     rw [if_pos rfl, if_pos hlt] at hcv
     cases hcv
     obtain ⟨r1, r2⟩ := q3 off v _ hv hc
     refine ⟨(hk w K v r1).ext hE fun r hr3 => ?_, r2⟩
     exact i1.content ho x (by simp only [contents]; exact List.mem_of_getElem? hc) r (hr r hr3)
    ·rw [if_neg hj] at hcv
     obtain ⟨r1, r2⟩ := q3 l v cv hv hcv
     exact ⟨r1.ext hE (i1.content ho cv (by simp only [contents]; exact List.mem_of_getElem? hcv)), r2⟩
   ·exact (i1.obj i x h2).ext hE (fun _ _ => rfl) (i1.content h2)
  ·simp only [hl2]
   rcases hs2 i x hi with ⟨rfl, rfl⟩ | ⟨_, h2⟩
   ·simp only [contents] at hcc
    rcases List.mem_or_eq_of_mem_set hcc with hm | rfl
    ·exact i1.cl i _ ho cc (by simp only [contents]; exact hm) r hr2
    ·exact i1.cl i _ ho _ (by simp only [contents]; exact List.mem_of_getElem? hc) r (hr r hr2)
   ·exact i1.cl i x h2 cc hcc r hr2
  ·simp only [hl2]
   exact i1.lg en hen
  ·rcases hs2 i _ hi with ⟨rfl, e2⟩ | ⟨_, h2⟩
   ·cases e2
   ·exact i1.lpd i L h2
 have hs3 : StOk cx G w K { H := H2, lg := M.lg } a e D := ⟨hs.fr.ext (M' := { H := H2, lg := M.lg }) hE, df_ext (M' := { H := H2, lg := M.lg }) hE hs.df, hI2, (rd_ext (M' := { H := H2, lg := M.lg }) hE hs.rd).1⟩
 have h2 := h G w _ a hs3
 exact wpIn_mono h2 fun ex a' w' ⟨e', M', K', D', q1, q2, q3, q4⟩ => ⟨e', M', K', D', q1, q2, q3, hE.trans q4⟩
theorem repV_p {w : World} {K : Nat → Option Nat} {H : List VObj} {v : Value} {u : PV} (h : RepV w K H v (.p u)) : RepP w (Im K H) v u := by
 cases h with
 | p _ _ h => exact h
theorem so_sw {w : World} {K : Nat → Option Nat} {H : List VObj} {v : Value} {g k : Nat} {xs : List (List PV)} (h : RepV w K H v (.so g k xs)) : RepV w K H v (.sw g k (xs.map (List.map .p))) := by
 cases h with
 | so _ _ _ _ h ht =>
  cases h with
  | sl A c _ b off _ f hc hm hk hA hi hw hr =>
   have hg : ∀ {i : Nat} {x : List VV} {j : Nat} {u : VV}, (xs.map (List.map VV.p))[i]? = some x → x[j]? = some u → ∃ x0 u0, xs[i]? = some x0 ∧ x0[j]? = some u0 ∧ u = .p u0 := fun h1 h2 => by
    rw [List.getElem?_map] at h1
    obtain ⟨x0, h3, rfl⟩ := Option.map_eq_some_iff.1 h1
    rw [List.getElem?_map] at h2
    obtain ⟨u0, h4, rfl⟩ := Option.map_eq_some_iff.1 h2
    exact ⟨x0, u0, h3, h4, rfl⟩
   have hsv : RepV w K H (.slice A (xs.map (List.map VV.p)).length c) (.sv k (xs.map (List.map VV.p))) := by
    refine .sv A c k b off _ f (by simpa using hc) hm (fun x hx => ?_) (fun hx => hA (by simpa using hx)) (fun i x j u h1 h2 => ?_) (fun i x j u h1 h2 => ?_) (fun i x j u h1 h2 => ?_) (fun i x j u h1 h2 => ?_)
    ·obtain ⟨x0, h1, rfl⟩ := List.mem_map.1 hx
     rw [List.length_map]; exact hk x0 h1
    ·obtain ⟨x0, u0, h3, h4, rfl⟩ := hg h1 h2
     exact hi i x0 j u0 h3 h4
    ·obtain ⟨x0, u0, h3, h4, rfl⟩ := hg h1 h2
     exact hw i x0 j u0 h3 h4
    ·obtain ⟨x0, u0, h3, h4, rfl⟩ := hg h1 h2
     exact .p _ _ (hr i x0 j u0 h3 h4)
    ·obtain ⟨x0, u0, h3, h4, rfl⟩ := hg h1 h2
     exact repP_isOne (hr i x0 j u0 h3 h4)
   rw [List.length_map] at hsv
   exact .sw _ _ _ _ hsv (by rw [List.length_map]; exact ht)
theorem sw_so {w : World} {K : Nat → Option Nat} {H : List VObj} {v : Value} {g k : Nat} {xs : List (List PV)} (h : RepV w K H v (.sw g k (xs.map (List.map .p)))) : RepV w K H v (.so g k xs) := by
 generalize hy : xs.map (List.map VV.p) = ys at h
 cases h with
 | sw _ _ _ _ h ht =>
  cases h with
  | sv A c _ b off _ f hc hm hk hA hi hw hr =>
   have hlen : ys.length = xs.length := by rw [← hy, List.length_map]
   have hg : ∀ {i : Nat} {x : List PV} {j : Nat} {u : PV}, xs[i]? = some x → x[j]? = some u → ys[i]? = some (x.map .p) ∧ (x.map VV.p)[j]? = some (.p u) := fun h1 h2 => ⟨by rw [← hy, List.getElem?_map, h1]; rfl, by rw [List.getElem?_map, h2]; rfl⟩
   rw [hlen] at ht hc ⊢
   refine .so _ _ _ _ (.sl A c k b off xs f hc hm (fun x hx => ?_) (fun hx => hA (fun h => hx (by rw [h] at hlen; exact List.length_eq_zero_iff.1 hlen.symm))) (fun i x j u h1 h2 => ?_) (fun i x j u h1 h2 => ?_) (fun i x j u h1 h2 => ?_)) ht
   ·have := hk (x.map .p) (by rw [← hy]; exact List.mem_map_of_mem hx)
    rwa [List.length_map] at this
   ·exact hi _ _ _ _ (hg h1 h2).1 (hg h1 h2).2
   ·exact hw _ _ _ _ (hg h1 h2).1 (hg h1 h2).2
   ·have := hr _ _ _ _ (hg h1 h2).1 (hg h1 h2).2
    exact repV_p this
end
theorem refsLL_pure : ∀ xs : List (List PV), refsLL (xs.map (List.map VV.p)) = []
 | [] => rfl
 | x :: xs => by
  have : ∀ l : List PV, refsL (l.map VV.p) = [] := by
   intro l
   induction l with
   | nil => rfl
   | cons a l ih => rw [List.map_cons, refsL, ih]; rfl
  rw [List.map_cons, refsLL, this, refsLL_pure xs]; rfl
noncomputable def T3 : Tab := tabOf Try.prog cmpB (varsOf Try.prog) (fun f => keepsB f || Nat.beq f 21)
theorem T3_ok : TabOk Try.prog T3 := tabOf_ok cmpB_ok (by kernel_rfl)
theorem fn_call3 {f : Nat} {fn : Func} {args : List VV} {M : Mem} {Q : VV → Mem → Prop} (hf : T3.fn f = some fn) (hk : T3.keeps f = true) (h : VC Try.prog f args M Q) : VCall Try.prog (.fn (.func f) [] []) args M Q :=
 VCall_fn T3_ok hf (by
  have : (sarg T3 f) = id := funext fun v => by simp [sarg, hk]
  simpa [this] using h)
/-- a house that is copied; more counts may follow -/
theorem copyHouse_k (h : Ho) (M : Mem) (hm : h.holds.length ≤ 1000000) (hg : h.doors.length ≤ 1000000) (hc : h.counts.length ≤ 1000000) : VC Try.prog 21 [houseV h] M (fun r M' => ∃ L X, L.length = 2 ∧ (∀ e ∈ X, M.H.length ≤ e.1) ∧ M' = ⟨M.H ++ (L ++ [.clm h.doors.length 3, .clm h.counts.length 6]), M.lg ++ X⟩ ∧ r = .agg [intsV h.holds, dosV h.doors, vi h.first.lo, vi h.first.hi, vi h.ticks, .sw (M.H.length + 3) 6 ((h.counts.map coP).map (List.map .p))]) := by
 have q1 : (h.doors.length * 24 ≤ 140737488355328) = True := eq_true (by omega)
 have q2 : (h.counts.length * 48 ≤ 140737488355328) = True := eq_true (by omega)
 refine VC_keep T3_ok (f := 21) (fn := Try.f21) (by kernel_rfl) rfl Try.ntmps21 (by rfl) (by rfl) ?_
 ((repeat refine W_seq ?_); refine W_region0 T_ok ?_)
 simp (maxSteps := 1000000) only [VL, VM, ↓VG, reduceIte, reduceCtorEq, zA, zB, zC, zD, zE, zF, zG, zH, zI, zJ]
 (repeat refine W_seq ?_)
 refine W_drawP T_ok [] (by kernel_rfl) (by kernel_rfl) ?_
 generalize hi : mkPlan _ = infs
 cbv at hi
 subst hi
 simp (maxSteps := 1000000) only [VL, VM, ↓VG, reduceIte, reduceCtorEq, zA, zB, zC, zD, zE, zF, zG, zH, zI, zJ, q1, q2]
 apply call_d (f := 31) (fn := Try.f31) (by kernel_rfl) (by rfl)
 ·exact copyInts_v h.holds _ hm
 simp (maxSteps := 1000000) only [VL, VM, ↓VG, reduceIte, reduceCtorEq, zA, zB, zC, zD, zE, zF, zG, zH, zI, zJ, q1, q2]
 refine W_cell (id := M.H.length) (off := 5) (x := .so (M.H.length + 3) 6 (h.counts.map coP)) (y := .sw (M.H.length + 3) 6 ((h.counts.map coP).map (List.map .p))) (hget0 _ _) rfl (fun r hr => ?_) (fun w K v => so_sw) ?_
 ·rw [refs, refsLL_pure] at hr
  exact hr
 simp only [hset0, List.set_cons_zero, List.set_cons_succ]
 ((repeat refine W_seq ?_); refine W_region0 T_ok ?_)
 simp (maxSteps := 1000000) only [VL, VM, ↓VG, reduceIte, reduceCtorEq, zA, zB, zC, zD, zE, zF, zG, zH, zI, zJ]
 (repeat refine W_seq ?_)
 refine W_ret ?_
 try simp only [thenQ, blockQ]
 obtain ⟨X1, h1, g1⟩ := addLg_Y M.H.length [M.H.length + 2] M.lg
 obtain ⟨X2, h2, g2⟩ := addLg_Y M.H.length [M.H.length + 3] (addLg M.H.length [M.H.length + 2] M.lg)
 obtain ⟨X3, h3, g3⟩ := addLg_Y (M.H.length + 1) ((M.H.length + 3) :: refsLL (List.map (List.map VV.p) (List.map coP h.counts))) (addLg M.H.length [M.H.length + 3] (addLg M.H.length [M.H.length + 2] M.lg))
 refine ⟨.inr (by trivial), by trivial, [.agg [intsV h.holds, dosV h.doors, vi h.first.lo, vi h.first.hi, vi h.ticks, .sw (M.H.length + 3) 6 ((h.counts.map coP).map (List.map .p))]], ?_, [.obj [intsV h.holds, .so (M.H.length + 2) 3 (h.doors.map doP), vi h.first.lo, vi h.first.hi, vi h.ticks, .sw (M.H.length + 3) 6 ((h.counts.map coP).map (List.map .p))], .obj [intsV h.holds, dosV h.doors, vi h.first.lo, vi h.first.hi, vi h.ticks, .sw (M.H.length + 3) 6 ((h.counts.map coP).map (List.map .p))]], X1 ++ X2 ++ X3, rfl, fun e he => ?_, ?_, rfl⟩
 ·simp [Try.f21, vresL, vload, show T3.ty = T.ty from rfl, t_house, get_cons, hget, hget0, nat_ble, strip1]
 ·simp only [List.mem_append] at he
  rcases he with (he | he) | he
  ·have := (g1 e he).1; omega
  ·have := (g2 e he).1; omega
  ·have := (g3 e he).1; omega
 ·rw [h3, h2, h1]
  simp only [List.append_assoc, List.cons_append, List.nil_append]
end Go.Proofs.Ytmagiabapakhcaa.Vm

/- The law of who may be inside, on values. (Vm) -/
namespace Go.Proofs.Ytmagiabapakhcaa.Vm
open Go Go.Proofs
abbrev housePP (h : Ho) : List PV := [.sl 1 (h.holds.map intP), .sl 3 (h.doors.map doP), .int .i64 h.first.lo, .int .i64 h.first.hi, .int .i64 h.ticks, .sl 6 (h.counts.map coP)]
def vastB (h : Ho) : Bool := decide (12 < h.holds.length) || decide (12 < h.doors.length) || decide (40 < h.counts.length)
theorem not_vast {h : Ho} (hv : vastB h = false) : h.holds.length ≤ 12 ∧ h.doors.length ≤ 12 ∧ h.counts.length ≤ 40 := by
 simp only [vastB, Bool.or_eq_false_iff, decide_eq_false_iff_not] at hv
 omega
theorem vast_v (h : Ho) (M : Mem) : VC Try.prog 17 [houseV h] M (fun r M' => M' = M ∧ r = vb (vastB h)) := by
 refine VC_own' T_ok (f := 17) (fn := Try.f17) (by kernel_rfl) rfl Try.ntmps17 (by rfl) (by rfl) ?_
 ((repeat refine W_seq ?_); refine W_region0 T_ok ?_)
 simp (maxSteps := 1000000) only [VL, VM, ↓VG, reduceIte, reduceCtorEq, zA, zB, zC, zD, zE, zF, zG, zH, zI, zJ]
 ((repeat refine W_seq ?_); refine W_region0 T_ok ?_)
 by_cases a1 : 12 < h.holds.length
 ·have k1 : ((12 : Int) < (h.holds.length : Int)) = True := eq_true (by omega)
  have e : vastB h = true := by simp [vastB, a1]
  simp (maxSteps := 1000000) only [VL, VM, ↓VG, reduceIte, reduceCtorEq, zA, zB, zC, zD, zE, zF, zG, zH, zI, zJ, k1]
  (repeat refine W_seq ?_)
  refine W_ret ?_
  try simp only [thenQ, blockQ]
  refine own_ret1 rfl ?_ (by rfl)
  simp only [get_cons, frz, vtup, Nat.reduceEqDiff, if_true, if_false, reduceIte]
  rw [e]
 have k1 : ((12 : Int) < (h.holds.length : Int)) = False := eq_false (by omega)
 by_cases a2 : 12 < h.doors.length
 ·have k2 : ((12 : Int) < (h.doors.length : Int)) = True := eq_true (by omega)
  have e : vastB h = true := by simp [vastB, a2]
  simp (maxSteps := 1000000) only [VL, VM, ↓VG, reduceIte, reduceCtorEq, zA, zB, zC, zD, zE, zF, zG, zH, zI, zJ, k1, k2]
  (repeat refine W_seq ?_)
  refine W_ret ?_
  try simp only [thenQ, blockQ]
  refine own_ret1 rfl ?_ (by rfl)
  simp only [get_cons, frz, vtup, Nat.reduceEqDiff, if_true, if_false, reduceIte]
  rw [e]
 have k2 : ((12 : Int) < (h.doors.length : Int)) = False := eq_false (by omega)
 by_cases a3 : 40 < h.counts.length
 ·have k3 : ((40 : Int) < (h.counts.length : Int)) = True := eq_true (by omega)
  have e : vastB h = true := by simp [vastB, a3]
  simp (maxSteps := 1000000) only [VL, VM, ↓VG, reduceIte, reduceCtorEq, zA, zB, zC, zD, zE, zF, zG, zH, zI, zJ, k1, k2, k3]
  (repeat refine W_seq ?_)
  refine W_ret ?_
  try simp only [thenQ, blockQ]
  refine own_ret1 rfl ?_ (by rfl)
  simp only [get_cons, frz, vtup, Nat.reduceEqDiff, if_true, if_false, reduceIte]
  rw [e]
 have k3 : ((40 : Int) < (h.counts.length : Int)) = False := eq_false (by omega)
 have e : vastB h = false := by simp [vastB, a1, a2, a3]
 simp (maxSteps := 1000000) only [VL, VM, ↓VG, reduceIte, reduceCtorEq, zA, zB, zC, zD, zE, zF, zG, zH, zI, zJ, k1, k2, k3]
 (repeat refine W_seq ?_)
 refine W_ret ?_
 try simp only [thenQ, blockQ]
 refine own_ret1 rfl ?_ (by rfl)
 simp only [get_cons, frz, vtup, Nat.reduceEqDiff, if_true, if_false, reduceIte]
 rw [e]
theorem sameInside_v (h : Ho) : ∃ v e, insideR h = .tup [v, vi e] ∧ strip1 v = v ∧ refs v = [] ∧ isCell v = true ∧ cellsOf v = [v] ∧ ∀ M, VC Try.prog 26 [v, v] M (fun r M' => M' = M ∧ r = vb true) := by
 have nil : ∀ M, VC Try.prog 26 [.p (.sl 0 []), .p (.sl 0 [])] M (fun r M' => M' = M ∧ r = vb true) := fun M => by
  refine VC_nil0 (us := []) (k := 2) ?_
  refine VC_nil0 (us := [.p (.sl 2 [])]) (k := 2) ?_
  exact sameSpans_v [] [] M (by simp)
 unfold insideR
 split
 ·rename_i h0
  cases hi : insideH h with
  | none => exact ⟨_, _, rfl, rfl, rfl, rfl, rfl, nil⟩
  | some l =>
   refine ⟨_, _, rfl, rfl, rfl, rfl, rfl, fun M => ?_⟩
   have hl := insideH_len hi
   have ht := (houseErr_ok.1 h0).t1
   have := sameSpans_v l l M (by omega)
   simpa using this
 ·exact ⟨_, _, rfl, rfl, rfl, rfl, rfl, nil⟩
structure JSt where
 i : Nat
 junk : List VObj
set_option maxHeartbeats 4000000 in
set_option maxRecDepth 100000 in
theorem inside_law_v (x : Ho) (c : Co) (xs : List Int) (M : Mem) (hl : xs.length ≤ maxLen) : VC Try.prog 3 [houseV x, coV c, intsV xs] M (fun r M' => M' = M ∧ r = vb true) := by
 refine VC_own' T_ok (f := 3) (fn := Try.f3) (by kernel_rfl) rfl Try.ntmps3 (by rfl) (by rfl) ?_
 ((repeat refine W_seq ?_); refine W_region0 T_ok ?_)
 simp (maxSteps := 1000000) only [VL, VM, ↓VG, reduceIte, reduceCtorEq, zA, zB, zC, zD, zE, zF, zG, zH, zI, zJ]
 cases hvast : vastB x with
 | true =>
  ((repeat refine W_seq ?_); refine W_region0 T_ok ?_)
  simp (maxSteps := 1000000) only [VL, VM, ↓VG, reduceIte, reduceCtorEq, zA, zB, zC, zD, zE, zF, zG, zH, zI, zJ]
  apply call_eq (f := 17) (fn := Try.f17) (by kernel_rfl) (by rfl)
  ·exact vast_v x _
  simp (maxSteps := 1000000) only [VL, VM, ↓VG, reduceIte, reduceCtorEq, zA, zB, zC, zD, zE, zF, zG, zH, zI, zJ, hvast]
  ((repeat refine W_seq ?_); refine W_cond (b := true) (by first | rfl | simp only [ev, get_cons, Nat.reduceEqDiff, if_true, if_false, reduceIte]) (fun _ => ?_) (fun h => by cases h))
  ((repeat refine W_seq ?_); refine W_region0 T_ok ?_)
  simp (maxSteps := 1000000) only [VL, VM, ↓VG, reduceIte, reduceCtorEq, zA, zB, zC, zD, zE, zF, zG, zH, zI, zJ]
  apply call_eq (f := 18) (fn := Try.f18) (by kernel_rfl) (by rfl)
  ·exact awake_v _
  simp (maxSteps := 1000000) only [VL, VM, ↓VG, reduceIte, reduceCtorEq, zA, zB, zC, zD, zE, zF, zG, zH, zI, zJ]
  (repeat refine W_seq ?_)
  refine W_ret ?_
  try simp only [thenQ, blockQ]
  refine own_ret1 rfl ?_ (by rfl)
  simp only [get_cons, frz, vtup, Nat.reduceEqDiff, if_true, if_false, reduceIte]
 | false =>
 obtain ⟨b1, b2, b3⟩ := not_vast hvast
 ((repeat refine W_seq ?_); refine W_region0 T_ok ?_)
 simp (maxSteps := 1000000) only [VL, VM, ↓VG, reduceIte, reduceCtorEq, zA, zB, zC, zD, zE, zF, zG, zH, zI, zJ]
 apply call_eq (f := 17) (fn := Try.f17) (by kernel_rfl) (by rfl)
 ·exact vast_v x _
 simp (maxSteps := 1000000) only [VL, VM, ↓VG, reduceIte, reduceCtorEq, zA, zB, zC, zD, zE, zF, zG, zH, zI, zJ, hvast]
 ((repeat refine W_seq ?_); refine W_cond (b := false) (by first | rfl | simp only [ev, get_cons, Nat.reduceEqDiff, if_true, if_false, reduceIte]) (fun h => by cases h) (fun _ => ?_))
 ((repeat refine W_seq ?_); refine W_skip ?_)
 simp (maxSteps := 1000000) only [VL, VM, ↓VG, reduceIte, reduceCtorEq, zA, zB, zC, zD, zE, zF, zG, zH, zI, zJ]
 ((repeat refine W_seq ?_); refine W_region0 T_ok ?_)
 simp (maxSteps := 1000000) only [VL, VM, ↓VG, reduceIte, reduceCtorEq, zA, zB, zC, zD, zE, zF, zG, zH, zI, zJ]
 apply call_eq (f := 20) (fn := Try.f20) (by kernel_rfl) (by rfl)
 ·exact dieOf_v xs _ hl
 obtain ⟨M1, hM1⟩ : ∃ M1, M1 = M.H ++ [VObj.obj (houseC x), VObj.obj [vi c.tick, vi c.door, vi c.i.lo, vi c.i.hi, vi c.o.lo, vi c.o.hi]] := ⟨_, rfl⟩
 obtain ⟨H0, hH0⟩ : ∃ H0, H0 = M1 ++ [VObj.dead] := ⟨_, rfl⟩
 obtain ⟨d, hdd⟩ : ∃ d, d = M1.length := ⟨_, rfl⟩
 have hd : d < H0.length := by rw [hH0, hdd]; simp
 have hlen0 : H0.length = M.H.length + 3 := by rw [hH0, hM1]; simp
 have hlen1 : d = M.H.length + 2 := by rw [hdd, hM1]; simp
 rw [← hM1, ← hH0, ← hdd]
 have tail : ∀ u L, DH H0 d u L = M.H ++ (VObj.obj (houseC x) :: VObj.obj [vi c.tick, vi c.door, vi c.i.lo, vi c.i.hi, vi c.o.lo, vi c.o.hi] :: .obj [uv u] :: L) := fun u L => by
  rw [hH0, hdd]
  have := DH_tail ⟨M1, M.lg⟩ u L
  rw [this, hM1]
  simp
 generalize dieU xs = u0
 simp (maxSteps := 1000000) only [VL, VM, ↓VG, reduceIte, reduceCtorEq, zA, zB, zC, zD, zE, zF, zG, zH, zI, zJ]
 refine fn_call (f := 19) (fn := Try.f19) (by kernel_rfl) (by rfl) ?_
 refine (houseOf_v hd u0 M.lg 3 4 5 30 (by omega) (by omega) (by omega) (by omega)).mono ?_
 rintro _ _ ⟨made, ts, u1, rfl, rfl, m⟩
 have mV := m.V
 have n1 := mV.n1
 have d1 := mV.d1
 have c1 := mV.c1
 have z1 : made.counts.length ≤ 1000 := by omega
 rw [tail]
 simp (maxSteps := 1000000) only [VL, VM, ↓VG, reduceIte, reduceCtorEq, zA, zB, zC, zD, zE, zF, zG, zH, zI, zJ]
 ((repeat refine W_seq ?_); refine W_region0 T_ok ?_)
 simp (maxSteps := 1000000) only [VL, VM, ↓VG, reduceIte, reduceCtorEq, zA, zB, zC, zD, zE, zF, zG, zH, zI, zJ]
 refine fn_call3 (f := 21) (fn := Try.f21) (by kernel_rfl) (by rfl) ?_
 refine (copyHouse_k made _ (by omega) (by omega) (by omega)).mono ?_
 rintro _ _ ⟨L, X, hL2, hX, rfl, rfl⟩
 obtain ⟨o1, o2, rfl⟩ : ∃ o1 o2, L = [o1, o2] := by
  match L, hL2 with
  | [a, b], _ => exact ⟨a, b, rfl⟩
 simp only [List.length_append, List.length_cons, List.length_nil, List.append_assoc, List.cons_append, List.nil_append, Nat.add_assoc, Nat.reduceAdd] at hX ⊢
 simp (maxSteps := 1000000) only [VL, VM, ↓VG, reduceIte, reduceCtorEq, zA, zB, zC, zD, zE, zF, zG, zH, zI, zJ]
 obtain ⟨X1, h1, g1⟩ := addLg_Y (M.H.length + 8) ((M.H.length + 7) :: refsLL (List.map (List.map VV.p) (List.map coP made.counts))) (M.lg ++ X)
 rw [h1]
 refine W_cell (id := M.H.length + 8) (off := 5) (x := .sw (M.H.length + 7) 6 ((made.counts.map coP).map (List.map .p))) (y := .so (M.H.length + 7) 6 (made.counts.map coP)) (hget _ _ _) rfl (fun r hr => ?_) (fun w K v => sw_so) ?_
 ·simp only [refs, List.mem_singleton] at hr
  rw [refs, hr]
  exact List.mem_cons_self ..
 simp only [hset, List.set_cons_zero, List.set_cons_succ]
 have q1 : ((made.counts.length + 1) * 48 ≤ 140737488355328) = True := eq_true (by omega)
 ((repeat refine W_seq ?_); refine W_region0 T_ok ?_)
 simp (maxSteps := 1000000) only [VL, VM, ↓VG, reduceIte, reduceCtorEq, zA, zB, zC, zD, zE, zF, zG, zH, zI, zJ, q1]
 obtain ⟨X2, h2, g2⟩ := addLg_Y (M.H.length + 8) [M.H.length + 7] (M.lg ++ (X ++ X1))
 rw [h2]
 have hZ : ∃ Z, M.lg ++ (X ++ X1) ++ X2 = M.lg ++ Z ∧ ∀ e ∈ Z, M.H.length ≤ e.1 := ⟨X ++ X1 ++ X2, by simp, fun e he => by
  simp only [List.mem_append] at he
  rcases he with (he | he) | he
  ·have := hX e he; omega
  ·have := (g1 e he).1; omega
  ·have := (g2 e he).1; omega⟩
 generalize M.lg ++ (X ++ X1) ++ X2 = lg at hZ ⊢
 clear h1 g1 h2 g2 hX X X1 X2
 obtain ⟨more, hmore⟩ : ∃ more : Ho, more = { made with counts := made.counts ++ [c] } := ⟨_, rfl⟩
 have hmc : more.counts.map coP = made.counts.map coP ++ [coP c] := by rw [hmore]; simp
 obtain ⟨hs, hhs⟩ : ∃ hs, hs = [x, made, more] := ⟨_, rfl⟩
 have hs3 : hs.length = 3 := by rw [hhs]; rfl
 have hFs : ∀ y ∈ hs, y.holds.length ≤ 100 ∧ y.doors.length ≤ 100 ∧ y.counts.length ≤ 100 := by
  rw [hhs]
  intro y hy
  simp only [List.mem_cons, List.not_mem_nil, or_false] at hy
  rcases hy with rfl | rfl | rfl
  ·omega
  ·omega
  ·rw [hmore]
   simp only [List.length_append, List.length_cons, List.length_nil]
   omega
 rw [← hmc]
 ((repeat refine W_seq ?_); refine W_region0 T_ok ?_)
 simp (maxSteps := 1000000) only [VL, VM, ↓VG, reduceIte, reduceCtorEq, zA, zB, zC, zD, zE, zF, zG, zH, zI, zJ]
 generalize hob : VObj.obj [intsV made.holds, dosV made.doors, vi made.first.lo, vi made.first.hi, vi made.ticks, VV.so (M.H.length + 7) 6 (List.map coP more.counts)] = ob
 ((repeat refine W_seq ?_); refine W_region0 T_ok ?_)
 simp (maxSteps := 1000000) only [VL, VM, ↓VG, reduceIte, reduceCtorEq, zA, zB, zC, zD, zE, zF, zG, zH, zI, zJ]
 ((repeat refine W_seq ?_); refine W_block ?_; (repeat refine W_seq ?_)); refine W_loopS (fun s : JSt => [(10, .sf 6 (hs.map housePP)), (11, vi s.i)]) (fun s => ⟨M.H ++ (VObj.obj (houseC x) :: VObj.obj [vi c.tick, vi c.door, vi c.i.lo, vi c.i.hi, vi c.o.lo, vi c.o.hi] :: VObj.obj [uv u1] :: VObj.obj (houseC made) :: o1 :: o2 :: VObj.clm made.doors.length 3 :: VObj.clm (made.counts.length + 1) 6 :: ob :: s.junk), lg⟩) (fun s => 3 - s.i) (fun s => s.i ≤ 3) ⟨0, []⟩ (Nat.zero_le _) ⟨?_, rfl, trivial⟩ rfl ?_
 ·rw [hhs, hmore]; simp [get_cons]
 clear q1 hob
 rintro ⟨i, junk⟩ hi
 simp only at hi
 have k1 : -9223372036854775808 ≤ (i : Int) + 1 ∧ (i : Int) + 1 < 9223372036854775808 := by omega
 ((repeat refine W_seq ?_); refine W_region0 T_ok ?_)
 rcases Nat.lt_or_ge i 3 with hlt | hge
 rotate_left
 ·have k2 : ((i : Int) < ((3 : Nat) : Int)) = False := eq_false (by omega)
  simp (maxSteps := 1000000) only [VL, VM, ↓VG, reduceIte, reduceCtorEq, zA, zB, zC, zD, zE, zF, zG, zH, zI, zJ, List.length_map, hs3, k2]
  ((repeat refine W_seq ?_); refine W_cond (b := false) (by first | rfl | simp only [ev, get_cons, Nat.reduceEqDiff, if_true, if_false, reduceIte]) (fun h => by cases h) (fun _ => ?_))
  ((repeat refine W_seq ?_); refine W_exit ?_)
  simp (maxSteps := 1000000) only [VL, VM, ↓VG, reduceIte, reduceCtorEq, zA, zB, zC, zD, zE, zF, zG, zH, zI, zJ]
  ((repeat refine W_seq ?_); refine W_region0 T_ok ?_)
  simp (maxSteps := 1000000) only [VL, VM, ↓VG, reduceIte, reduceCtorEq, zA, zB, zC, zD, zE, zF, zG, zH, zI, zJ]
  apply call_eq (f := 18) (fn := Try.f18) (by kernel_rfl) (by rfl)
  ·exact awake_v _
  simp (maxSteps := 1000000) only [VL, VM, ↓VG, reduceIte, reduceCtorEq, zA, zB, zC, zD, zE, zF, zG, zH, zI, zJ]
  obtain ⟨Z, hZ1, hZ2⟩ := hZ
  (repeat refine W_seq ?_)
  refine W_ret ?_
  try simp only [thenQ, blockQ]
  exact ⟨.inr rfl, rfl, ⟨Z, hZ1, hZ2⟩, M.H, _, rfl, rfl, [vb true], rfl, vb true, rfl, by simp [refs], rfl, rfl⟩
 have k2 : ((i : Int) < ((3 : Nat) : Int)) = True := eq_true (by omega)
 have hx : hs[i]? = some (hs[i]'(by omega)) := List.getElem?_eq_getElem (by omega)
 obtain ⟨f1, f2, f3⟩ := hFs _ (List.getElem_mem (l := hs) (n := i) (by omega))
 generalize hs[i]'(by omega) = h at hx f1 f2 f3
 have hx' := map_at (f := housePP) hx
 clear hx hFs
 obtain ⟨v, e, hv, hv1, hv2, hv3, hv4, hv5⟩ := sameInside_v h
 simp (maxSteps := 1000000) only [VL, VM, ↓VG, reduceIte, reduceCtorEq, zA, zB, zC, zD, zE, zF, zG, zH, zI, zJ, List.length_map, hs3, k2]
 ((repeat refine W_seq ?_); refine W_cond (b := true) (by first | rfl | simp only [ev, get_cons, Nat.reduceEqDiff, if_true, if_false, reduceIte]) (fun _ => ?_) (fun h => by cases h))
 ((repeat refine W_seq ?_); refine W_skip ?_)
 simp (maxSteps := 1000000) only [VL, VM, ↓VG, reduceIte, reduceCtorEq, zA, zB, zC, zD, zE, zF, zG, zH, zI, zJ]
 ((repeat refine W_seq ?_); refine W_block ?_)
 ((repeat refine W_seq ?_); refine W_region0 T_ok ?_)
 simp (maxSteps := 1000000) only [VL, VM, ↓VG, reduceIte, reduceCtorEq, zA, zB, zC, zD, zE, zF, zG, zH, zI, zJ, hx']
 apply call_eq (f := 21) (fn := Try.f21) (by kernel_rfl) (by rfl)
 ·exact copyHouse_v h _ (by omega) (by omega) (by omega)
 simp (maxSteps := 1000000) only [VL, VM, ↓VG, reduceIte, reduceCtorEq, zA, zB, zC, zD, zE, zF, zG, zH, zI, zJ, hx']
 ((repeat refine W_seq ?_); refine W_region0 T_ok ?_)
 simp (maxSteps := 1000000) only [VL, VM, ↓VG, reduceIte, reduceCtorEq, zA, zB, zC, zD, zE, zF, zG, zH, zI, zJ]
 apply call_eq (f := 22) (fn := Try.f22) (by kernel_rfl) (by rfl)
 ·exact Inside_v h _ (by omega) (by omega) (by omega)
 rw [hv]
 simp (maxSteps := 1000000) only [VL, VM, ↓VG, reduceIte, reduceCtorEq, zA, zB, zC, zD, zE, zF, zG, zH, zI, zJ, hv1]
 ((repeat refine W_seq ?_); refine W_region0 T_ok ?_)
 simp (maxSteps := 1000000) only [VL, VM, ↓VG, reduceIte, reduceCtorEq, zA, zB, zC, zD, zE, zF, zG, zH, zI, zJ, hx']
 apply call_eq (f := 23) (fn := Try.f23) (by kernel_rfl) (by rfl)
 ·exact Inside_r h _ (by omega) (by omega) (by omega)
 rw [hv]
 simp (maxSteps := 1000000) only [VL, VM, ↓VG, reduceIte, reduceCtorEq, zA, zB, zC, zD, zE, zF, zG, zH, zI, zJ, hv1]
 (repeat refine W_seq ?_)
 refine W_drawP T_ok [] (by kernel_rfl) (by kernel_rfl) ?_
 generalize hi : mkPlan _ = infs
 cbv at hi
 subst hi
 simp (maxSteps := 1000000) only [VL, VM, ↓VG, reduceIte, reduceCtorEq, zA, zB, zC, zD, zE, zF, zG, zH, zI, zJ, hx', eq_self, decide_true, Bool.not_true]
 apply call_d (f := 24) (fn := Try.f24) (by kernel_rfl) (by rfl)
 ·exact check_v h _ (by omega) (by omega) (by omega)
 simp (maxSteps := 1000000) only [VL, VM, ↓VG, reduceIte, reduceCtorEq, zA, zB, zC, zD, zE, zF, zG, zH, zI, zJ, hx', eq_self, decide_true, Bool.not_true]
 apply call_d (f := 25) (fn := Try.f25) (by kernel_rfl) (by rfl)
 ·exact check_r h _ (by omega) (by omega) (by omega)
 simp (maxSteps := 1000000) only [VL, VM, ↓VG, reduceIte, reduceCtorEq, zA, zB, zC, zD, zE, zF, zG, zH, zI, zJ, hx', eq_self, decide_true, Bool.not_true]
 refine call_d (f := 26) (fn := Try.f26) (by kernel_rfl) (by rfl) (by simp only [List.map_cons, List.map_nil, hv1]; exact hv5 _) ?_
 simp (maxSteps := 1000000) only [VL, VM, ↓VG, reduceIte, reduceCtorEq, zA, zB, zC, zD, zE, zF, zG, zH, zI, zJ, hx', eq_self, decide_true, Bool.not_true]
 apply call_d (f := 27) (fn := Try.f27) (by kernel_rfl) (by rfl)
 ·exact sameHouse_v h _ (by omega) (by omega) (by omega)
 simp (maxSteps := 1000000) only [VL, VM, ↓VG, reduceIte, reduceCtorEq, zA, zB, zC, zD, zE, zF, zG, zH, zI, zJ, hx', eq_self, decide_true, Bool.not_true]
 ((repeat refine W_seq ?_); refine W_cond (b := false) (by first | rfl | simp only [ev, get_cons, Nat.reduceEqDiff, if_true, if_false, reduceIte]) (fun h => by cases h) (fun _ => ?_))
 ((repeat refine W_seq ?_); refine W_skip ?_)
 simp (maxSteps := 1000000) only [VL, VM, ↓VG, reduceIte, reduceCtorEq, zA, zB, zC, zD, zE, zF, zG, zH, zI, zJ]
 ((repeat refine W_seq ?_); refine W_region0 T_ok ?_)
 simp (maxSteps := 1000000) only [VL, VM, ↓VG, reduceIte, reduceCtorEq, zA, zB, zC, zD, zE, zF, zG, zH, zI, zJ, k1]
 refine LoopK.mk ⟨i + 1, junk ++ [VObj.obj (houseC h)]⟩ (by simp only; omega) (by simp only; omega) ⟨rfl, rfl, trivial⟩ rfl
end Go.Proofs.Ytmagiabapakhcaa.Vm
