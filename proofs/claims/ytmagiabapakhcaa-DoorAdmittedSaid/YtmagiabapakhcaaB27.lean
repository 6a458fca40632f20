/- A part of the proofs about the chapter of the doors; it states no condition of its own. -/
import Derived.Test.YtmagiabapakhcaaB21
import Derived.Test.YtmagiabapakhcaaB25
import Derived.Test.YtmagiabapakhcaaB26
set_option linter.unusedVariables false
set_option linter.unusedSimpArgs false
open Int renaming reduceLE → zA, reduceLT → zB, reduceToNat → zC, reduceNeg → zD
open Nat renaming reduceLT → zE, reduceEqDiff → zF, reduceAdd → zG, reduceSub → zH, reduceMul → zI, reduceLeDiff → zJ
/- Who may be inside, on values. (Vm) -/
-- TABLE TE
namespace Go.Proofs.Ytmagiabapakhcaa.Vm
open Go Go.Proofs
theorem spCs_one {L : List Sp} : ∀ {k : Nat} {x : Sp}, L[k]? = some x → ((spCs L).drop (k * 2)).take 1 = [vi x.lo] ∧ ((spCs L).drop (k * 2 + 1)).take 1 = [vi x.hi] := by
 intro k x h
 have hk := (List.getElem?_eq_some_iff.1 h).1
 have he : L[k] = x := (List.getElem?_eq_some_iff.1 h).2
 have h0 : (spCs L).drop (k * 2) = vi x.lo :: vi x.hi :: spCs (L.drop (k + 1)) := by
  rw [spCs_drop, List.drop_eq_getElem_cons hk, he]
  simp [spCs]
 refine ⟨by rw [h0]; rfl, ?_⟩
 rw [show k * 2 + 1 = k * 2 + 1 from rfl, ← List.drop_drop, h0]; rfl
theorem spCs_get {L : List Sp} {k : Nat} {x : Sp} (h : L[k]? = some x) : (spCs L)[k * 2]? = some (vi x.lo) ∧ (spCs L)[k * 2 + 1]? = some (vi x.hi) := by
 obtain ⟨h1, h2⟩ := spCs_one h
 have f : ∀ (n : Nat) (v : VV), ((spCs L).drop n).take 1 = [v] → (spCs L)[n]? = some v := fun n v e => by
  have : (((spCs L).drop n).take 1)[0]? = some v := by rw [e]; rfl
  rw [List.getElem?_take_of_lt (by omega), List.getElem?_drop, Nat.add_zero] at this
  exact this
 exact ⟨f _ _ h1, f _ _ h2⟩
theorem spCs_app (l : List Sp) (x : Sp) : spCs l ++ [vi x.lo, vi x.hi] = spCs (l ++ [x]) := by simp [spCs]
structure InSt where
 i : Nat
 tl : Nat
 L : List VObj
def ovOf (n0 : Nat) (first : Sp) (i tl : Nat) : VV := if i = 0 then .sf 2 [spP first] else .bf (n0 + (tl + 2)) 0 (i + 1) 2
theorem ovOf_zero (n0 : Nat) (first : Sp) (tl : Nat) : ovOf n0 first 0 tl = .sf 2 [spP first] := rfl
theorem ovOf_succ (n0 : Nat) (first : Sp) (p tl : Nat) : ovOf n0 first (p + 1) tl = .bf (n0 + (tl + 2)) 0 (p + 2) 2 := rfl
def insR (h : Ho) : VV := match insideH h with
 | some l => .tup [spsV l, vb true]
 | none => .tup [.p (.sl 0 []), vb false]
set_option maxHeartbeats 1000000 in
set_option maxRecDepth 8000 in
theorem inside_v (h : Ho) (V : HV h) (M : Mem) : VC Try.prog 65 [houseV h] M (fun r M' => M' = M ∧ r = insR h) := by
 have t0 := V.t0
 have t1 := V.t1
 obtain ⟨T', hT⟩ : ∃ T' : Nat, h.ticks = (T' : Int) := ⟨h.ticks.toNat, by omega⟩
 have hTn : h.ticks.toNat = T' := by omega
 obtain ⟨C, hC⟩ : ∃ C : Nat → Sp, C = fun t : Nat => chg h.counts (t : Int) := ⟨_, rfl⟩
 have hCb : Cb C := by rw [hC]; exact chg_Cb V
 have hR : insR h = if bad h.first C T' then .tup [.p (.sl 0 []), vb false] else .tup [spsV (insideL h.first C T'), vb true] := by
  unfold insR insideH
  rw [hTn, ← hC]
  cases bad h.first C T' <;> rfl
 have hfb := fwd_bd V.first hCb
 refine VC_own' TE_ok (f := 65) (fn := Try.f65) (by kernel_rfl) rfl Try.ntmps65 (by rfl) (by rfl) ?_
 ((repeat refine Ws ?_);refine W_region0 TE_ok ?_)
 simp (maxSteps := 1000000) only [xE_ty, xE_fn, xE_bin, xE_oi, xE_oc, xE_ok, VL,VM,↓VG,reduceIte,reduceCtorEq,zA,zB,zC,zD,zE,zF,zG,zH,zI,zJ]
 ((repeat refine Ws ?_);refine W_region0 TE_ok ?_)
 simp (maxSteps := 1000000) only [xE_ty, xE_fn, xE_bin, xE_oi, xE_oc, xE_ok, VL,VM,↓VG,reduceIte,reduceCtorEq,zA,zB,zC,zD,zE,zF,zG,zH,zI,zJ]
 apply call_eq (f := 95) (fn := Try.f95) (by kernel_rfl) (by rfl)
 ·exact counted_v h V _
 rw [hTn, ← hC]
 simp (maxSteps := 1000000) only [xE_ty, xE_fn, xE_bin, xE_oi, xE_oc, xE_ok, VL,VM,↓VG,reduceIte,reduceCtorEq,zA,zB,zC,zD,zE,zF,zG,zH,zI,zJ]
 ((repeat refine Ws ?_);refine W_region0 TE_ok ?_)
 simp (maxSteps := 1000000) only [xE_ty, xE_fn, xE_bin, xE_oi, xE_oc, xE_ok, VL,VM,↓VG,reduceIte,reduceCtorEq,zA,zB,zC,zD,zE,zF,zG,zH,zI,zJ]
 ((repeat refine Ws ?_);refine W_region0 TE_ok ?_)
 simp (maxSteps := 1000000) only [xE_ty, xE_fn, xE_bin, xE_oi, xE_oc, xE_ok, VL,VM,↓VG,reduceIte,reduceCtorEq,zA,zB,zC,zD,zE,zF,zG,zH,zI,zJ]
 ((repeat refine Ws ?_);refine W_region0 TE_ok ?_)
 simp (maxSteps := 1000000) only [xE_ty, xE_fn, xE_bin, xE_oi, xE_oc, xE_ok, VL,VM,↓VG,reduceIte,reduceCtorEq,zA,zB,zC,zD,zE,zF,zG,zH,zI,zJ, List.length_range]
 ((repeat refine Ws ?_);refine W_block ?_; (repeat refine Ws ?_)); refine W_loopS (fun s : InSt => [(0, houseV h), (1, .ptr M.H.length 0), (4, spsV ((List.range T').map C)), (5, .ptr (M.H.length + 1) 0), (6, ovOf M.H.length h.first s.i s.tl), (16, spsV ((List.range T').map C)), (17, vi T'), (18, vi s.i)]) (fun s => ⟨M.H ++ (.obj (houseC h) :: .obj [vi 0, vi 1099511627776] :: s.L), M.lg⟩) (fun s => T' - s.i) (fun s => s.i ≤ T' ∧ (s.i ≠ 0 → s.L[s.tl]? = some (.obj (spCs (fwdL h.first C s.i)))) ∧ ∀ t, t < s.i → ¬ (fwd h.first C (t + 1)).hi < (fwd h.first C (t + 1)).lo) ⟨0, 0, []⟩ ⟨Nat.zero_le _, fun q => absurd rfl q, fun t ht => absurd ht (Nat.not_lt_zero _)⟩ ⟨rfl, rfl, rfl, rfl, rfl, rfl, rfl, rfl, trivial⟩ (by simp) ?_
 rintro ⟨i, tl, L⟩ ⟨hi, hL, hno⟩
 simp only at hi hL hno
 have k1 : -9223372036854775808 ≤ (i : Int) + 1 ∧ (i : Int) + 1 < 9223372036854775808 := by omega
 have k0 : 0 ≤ (i : Int) + 1 := by omega
 have kn : ((i : Int) + 1).toNat = i + 1 := by omega
 ((repeat refine Ws ?_);refine W_region0 TE_ok ?_)
 rcases Nat.lt_or_ge i T' with hlt | hge
 ·have k2 : ((i : Int) < (T' : Int)) = True := eq_true (by omega)
  have hx : ((List.range T').map C)[i]? = some (C i) := by rw [List.getElem?_map, List.getElem?_range hlt]; rfl
  have hx' := map_at (f := spP) hx
  have hb1 := hfb i
  have hb2 := hCb i
  have sb1 : Sb (fwd h.first C i) := ⟨by omega, by omega, by omega, by omega⟩
  have sb2 : Sb (C i) := ⟨by omega, by omega, by omega, by omega⟩
  have hsm : bothS (sumS [fwd h.first C i, C i]) ⟨0, 1099511627776⟩ = fwd h.first C (i + 1) := by
   simp only [sumS, bothS, fwd, nxt, List.map_cons, List.map_nil, List.sum_cons, List.sum_nil]
   congr 1 <;> omega
  have hsn := fwdL_snoc h.first C i
  simp (maxSteps := 1000000) only [xE_ty, xE_fn, xE_bin, xE_oi, xE_oc, xE_ok, VL,VM,↓VG,reduceIte,reduceCtorEq,zA,zB,zC,zD,zE,zF,zG,zH,zI,zJ, k2]
  ((repeat refine Ws ?_);refine Wt (by first|rfl|simp only [EV,zF,reduceIte]) ?_)
  ((repeat refine Ws ?_);refine W_skip ?_)
  simp (maxSteps := 1000000) only [xE_ty, xE_fn, xE_bin, xE_oi, xE_oc, xE_ok, VL,VM,↓VG,reduceIte,reduceCtorEq,zA,zB,zC,zD,zE,zF,zG,zH,zI,zJ]
  ((repeat refine Ws ?_);refine W_block ?_)
  ((repeat refine Ws ?_);refine W_region0 TE_ok ?_)
  simp (maxSteps := 1000000) only [xE_ty, xE_fn, xE_bin, xE_oi, xE_oc, xE_ok, VL,VM,↓VG,reduceIte,reduceCtorEq,zA,zB,zC,zD,zE,zF,zG,zH,zI,zJ, hx']
  rcases i with _ | p
  ·have hsm0 : bothS (sumS [h.first, C 0]) ⟨0, 1099511627776⟩ = fwd h.first C 1 := hsm
   have happ : [vi h.first.lo, vi h.first.hi, vi (fwd h.first C 1).lo, vi (fwd h.first C 1).hi] = spCs (fwdL h.first C 1) := rfl
   (repeat refine Ws ?_)
   refine W_drawP TE_ok [] (by kernel_rfl) (by kernel_rfl) ?_
   generalize hi : mkPlan _ = infs
   cbv at hi
   subst hi
   simp (maxSteps := 1000000) only [xE_ty, xE_fn, xE_bin, xE_oi, xE_oc, xE_ok, VL,VM,↓VG,reduceIte,reduceCtorEq,zA,zB,zC,zD,zE,zF,zG,zH,zI,zJ, ovOf_zero, vgrow]
   apply call_d (f := 97) (fn := Try.f97) (by kernel_rfl) (by rfl)
   ·exact sum_v [h.first, C 0] _ (by simp) (by
    intro x hx
    simp only [List.mem_cons, List.mem_nil_iff, or_false] at hx
    rcases hx with rfl | rfl
    ·exact sb1
    ·exact sb2)
   simp (maxSteps := 1000000) only [xE_ty, xE_fn, xE_bin, xE_oi, xE_oc, xE_ok, VL,VM,↓VG,reduceIte,reduceCtorEq,zA,zB,zC,zD,zE,zF,zG,zH,zI,zJ, ovOf_zero, vgrow]
   apply call_d (f := 96) (fn := Try.f96) (by kernel_rfl) (by rfl)
   ·exact both_v (sumS [h.first, C 0]) ⟨0, 1099511627776⟩ _
   rw [hsm0]
   simp (maxSteps := 1000000) only [xE_ty, xE_fn, xE_bin, xE_oi, xE_oc, xE_ok, VL,VM,↓VG,reduceIte,reduceCtorEq,zA,zB,zC,zD,zE,zF,zG,zH,zI,zJ, ovOf_zero, vgrow, List.flatten_cons, List.flatten_nil]
   rw [happ]
   obtain ⟨L2, hL2⟩ : ∃ L2, L2 = L ++ [VObj.obj [vi (C 0).lo, vi (C 0).hi], .obj (spCs (fwdL h.first C 1))] := ⟨_, rfl⟩
   have hg2 : L2[L.length + 1]? = some (.obj (spCs (fwdL h.first C (0 + 1)))) := by rw [hL2, hget]; rfl
   rw [← hL2]
   have g1 := spCs_get (fwdL_at (first := h.first) (C := C) (Nat.le_refl (0 + 1)))
   have g2 := g1.2
   have g1 := g1.1
   have u1 : (0 + 1 < 2) = True := eq_true (by omega)
   have hlen2 : (spCs (fwdL h.first C (0 + 1))).length = (0 + 1 + 1) * 2 := by rw [spCs_len, fwdL_len]
   (repeat refine Ws ?_)
   refine W_drawP TE_ok [] (by kernel_rfl) (by kernel_rfl) ?_
   generalize hi : mkPlan _ = infs
   cbv at hi
   subst hi
   by_cases b : (fwd h.first C (0 + 1)).hi < (fwd h.first C (0 + 1)).lo
   ·have kb : ((fwd h.first C (0 + 1)).hi < (fwd h.first C (0 + 1)).lo) = True := eq_true b
    simp (maxSteps := 1000000) only [xE_ty, xE_fn, xE_bin, xE_oi, xE_oc, xE_ok, VL,VM,↓VG,reduceIte,reduceCtorEq,zA,zB,zC,zD,zE,zF,zG,zH,zI,zJ, hg2, k1, k0, kn, g1, g2, u1, kb]
    ((repeat refine Ws ?_);refine Wt (by first|rfl|simp only [EV,zF,reduceIte]) ?_)
    ((repeat refine Ws ?_);refine W_region0 TE_ok ?_)
    simp (maxSteps := 1000000) only [xE_ty, xE_fn, xE_bin, xE_oi, xE_oc, xE_ok, VL,VM,↓VG,reduceIte,reduceCtorEq,zA,zB,zC,zD,zE,zF,zG,zH,zI,zJ]
    (repeat refine Ws ?_)
    refine W_ret ?_
    try simp only [thenQ, blockQ]
    refine own_ret (vs := [.sf 0 [], vb false]) (r := .tup [.p (.sl 0 []), vb false]) rfl (by simp [vtup, frz, frzL]) (by simp [refs, refsL]) ⟨rfl, ?_⟩
    rw [hR, bad_true hlt b, if_pos rfl]
   have kb : ((fwd h.first C (0 + 1)).hi < (fwd h.first C (0 + 1)).lo) = False := eq_false b
   simp (maxSteps := 1000000) only [xE_ty, xE_fn, xE_bin, xE_oi, xE_oc, xE_ok, VL,VM,↓VG,reduceIte,reduceCtorEq,zA,zB,zC,zD,zE,zF,zG,zH,zI,zJ, hg2, k1, k0, kn, g1, g2, u1, kb]
   ((repeat refine Ws ?_);refine Wf (by first|rfl|simp only [EV,zF,reduceIte]) ?_)
   ((repeat refine Ws ?_);refine W_skip ?_)
   simp (maxSteps := 1000000) only [xE_ty, xE_fn, xE_bin, xE_oi, xE_oc, xE_ok, VL,VM,↓VG,reduceIte,reduceCtorEq,zA,zB,zC,zD,zE,zF,zG,zH,zI,zJ]
   ((repeat refine Ws ?_);refine W_region0 TE_ok ?_)
   simp (maxSteps := 1000000) only [xE_ty, xE_fn, xE_bin, xE_oi, xE_oc, xE_ok, VL,VM,↓VG,reduceIte,reduceCtorEq,zA,zB,zC,zD,zE,zF,zG,zH,zI,zJ, k1]
   refine LoopK.mk ⟨0 + 1, L.length + 1, L2⟩ (by simp only; omega) ⟨hlt, fun _ => hg2, fun t ht => ?_⟩ ⟨rfl, rfl, rfl, rfl, rfl, rfl, rfl, rfl, trivial⟩ rfl
   rcases Nat.lt_succ_iff_lt_or_eq.1 ht with q | q
   ·exact hno t q
   ·rw [q]; exact b
  ·have hL1 := hL (by omega)
   have htl := lt_of_get hL1
   have e1 : ∀ Y, (L ++ Y)[tl]? = some (.obj (spCs (fwdL h.first C (p + 1)))) := fun Y => get_app hL1
   have e2 : ∀ Y x, (L ++ Y).set tl x = L.set tl x ++ Y := fun Y x => List.set_append_left _ _ htl
   have hlen : (spCs (fwdL h.first C (p + 1))).length = (p + 2) * 2 := by rw [spCs_len, fwdL_len]
   have c2 : ((p + 1) * 2 + 2 ≤ (p + 2) * 2) = True := eq_true (by omega)
   have c3 := spCs_at (fwdL_at (first := h.first) (C := C) (Nat.le_refl (p + 1)))
   have q3 : ((p + 3) * 16 ≤ 140737488355328) = True := eq_true (by omega)
   have happ : spCs (fwdL h.first C (p + 1)) ++ [vi (fwd h.first C (p + 2)).lo, vi (fwd h.first C (p + 2)).hi] = spCs (fwdL h.first C (p + 2)) := by rw [spCs_app]; exact congrArg spCs hsn
   (repeat refine Ws ?_)
   refine W_drawP TE_ok [] (by kernel_rfl) (by kernel_rfl) ?_
   generalize hi : mkPlan _ = infs
   cbv at hi
   subst hi
   simp (maxSteps := 1000000) only [xE_ty, xE_fn, xE_bin, xE_oi, xE_oc, xE_ok, VL,VM,↓VG,reduceIte,reduceCtorEq,zA,zB,zC,zD,zE,zF,zG,zH,zI,zJ, ovOf_succ, vgrow, e1, e2, hlen, c2, c3, q3]
   apply call_d (f := 97) (fn := Try.f97) (by kernel_rfl) (by rfl)
   ·exact sum_v [fwd h.first C (p + 1), C (p + 1)] _ (by simp) (by
    intro x hx
    simp only [List.mem_cons, List.mem_nil_iff, or_false] at hx
    rcases hx with rfl | rfl
    ·exact sb1
    ·exact sb2)
   simp (maxSteps := 1000000) only [xE_ty, xE_fn, xE_bin, xE_oi, xE_oc, xE_ok, VL,VM,↓VG,reduceIte,reduceCtorEq,zA,zB,zC,zD,zE,zF,zG,zH,zI,zJ, ovOf_succ, vgrow, e1, e2, hlen, c2, c3, q3]
   apply call_d (f := 96) (fn := Try.f96) (by kernel_rfl) (by rfl)
   ·exact both_v (sumS [fwd h.first C (p + 1), C (p + 1)]) ⟨0, 1099511627776⟩ _
   rw [hsm]
   simp (maxSteps := 1000000) only [xE_ty, xE_fn, xE_bin, xE_oi, xE_oc, xE_ok, VL,VM,↓VG,reduceIte,reduceCtorEq,zA,zB,zC,zD,zE,zF,zG,zH,zI,zJ, ovOf_succ, vgrow, e1, e2, hlen, c2, c3, q3, List.flatten_cons, List.flatten_nil, happ]
   obtain ⟨L2, hL2⟩ : ∃ L2, L2 = L.set tl .gone ++ [VObj.obj [vi (C (p + 1)).lo, vi (C (p + 1)).hi], .obj (spCs (fwdL h.first C (p + 2)))] := ⟨_, rfl⟩
   have hg2 : L2[L.length + 1]? = some (.obj (spCs (fwdL h.first C (p + 1 + 1)))) := by
    rw [hL2, List.getElem?_append_right (by rw [List.length_set]; omega), List.length_set, Nat.add_sub_cancel_left]; rfl
   rw [← hL2]
   have g1 := spCs_get (fwdL_at (first := h.first) (C := C) (Nat.le_refl (p + 1 + 1)))
   have g2 := g1.2
   have g1 := g1.1
   have u1 : (p + 1 + 1 < p + 3) = True := eq_true (by omega)
   have hlen2 : (spCs (fwdL h.first C (p + 1 + 1))).length = (p + 1 + 1 + 1) * 2 := by rw [spCs_len, fwdL_len]
   (repeat refine Ws ?_)
   refine W_drawP TE_ok [] (by kernel_rfl) (by kernel_rfl) ?_
   generalize hi : mkPlan _ = infs
   cbv at hi
   subst hi
   by_cases b : (fwd h.first C (p + 1 + 1)).hi < (fwd h.first C (p + 1 + 1)).lo
   ·have kb : ((fwd h.first C (p + 1 + 1)).hi < (fwd h.first C (p + 1 + 1)).lo) = True := eq_true b
    simp (maxSteps := 1000000) only [xE_ty, xE_fn, xE_bin, xE_oi, xE_oc, xE_ok, VL,VM,↓VG,reduceIte,reduceCtorEq,zA,zB,zC,zD,zE,zF,zG,zH,zI,zJ, hg2, k1, k0, kn, g1, g2, u1, kb]
    ((repeat refine Ws ?_);refine Wt (by first|rfl|simp only [EV,zF,reduceIte]) ?_)
    ((repeat refine Ws ?_);refine W_region0 TE_ok ?_)
    simp (maxSteps := 1000000) only [xE_ty, xE_fn, xE_bin, xE_oi, xE_oc, xE_ok, VL,VM,↓VG,reduceIte,reduceCtorEq,zA,zB,zC,zD,zE,zF,zG,zH,zI,zJ]
    (repeat refine Ws ?_)
    refine W_ret ?_
    try simp only [thenQ, blockQ]
    refine own_ret (vs := [.sf 0 [], vb false]) (r := .tup [.p (.sl 0 []), vb false]) rfl (by simp [vtup, frz, frzL]) (by simp [refs, refsL]) ⟨rfl, ?_⟩
    rw [hR, bad_true hlt b, if_pos rfl]
   have kb : ((fwd h.first C (p + 1 + 1)).hi < (fwd h.first C (p + 1 + 1)).lo) = False := eq_false b
   simp (maxSteps := 1000000) only [xE_ty, xE_fn, xE_bin, xE_oi, xE_oc, xE_ok, VL,VM,↓VG,reduceIte,reduceCtorEq,zA,zB,zC,zD,zE,zF,zG,zH,zI,zJ, hg2, k1, k0, kn, g1, g2, u1, kb]
   ((repeat refine Ws ?_);refine Wf (by first|rfl|simp only [EV,zF,reduceIte]) ?_)
   ((repeat refine Ws ?_);refine W_skip ?_)
   simp (maxSteps := 1000000) only [xE_ty, xE_fn, xE_bin, xE_oi, xE_oc, xE_ok, VL,VM,↓VG,reduceIte,reduceCtorEq,zA,zB,zC,zD,zE,zF,zG,zH,zI,zJ]
   ((repeat refine Ws ?_);refine W_region0 TE_ok ?_)
   simp (maxSteps := 1000000) only [xE_ty, xE_fn, xE_bin, xE_oi, xE_oc, xE_ok, VL,VM,↓VG,reduceIte,reduceCtorEq,zA,zB,zC,zD,zE,zF,zG,zH,zI,zJ, k1]
   refine LoopK.mk ⟨p + 1 + 1, L.length + 1, L2⟩ (by simp only; omega) ⟨hlt, fun _ => hg2, fun t ht => ?_⟩ ⟨rfl, rfl, rfl, rfl, rfl, rfl, rfl, rfl, trivial⟩ rfl
   rcases Nat.lt_succ_iff_lt_or_eq.1 ht with q | q
   ·exact hno t q
   ·rw [q]; exact b
 have k2 : ((i : Int) < (T' : Int)) = False := eq_false (by omega)
 have hi3 : i = T' := by omega
 subst hi3
 have hR2 : insR h = .tup [spsV (insideL h.first C i), vb true] := by rw [hR, bad_false hno]; rfl
 have hbb := bwd_bd V.first hCb i
 have kt : -9223372036854775808 ≤ h.ticks - 1 ∧ h.ticks - 1 < 9223372036854775808 := by omega
 have kt2 : vi (h.ticks - 1) = vi ((i : Int) - 1 - ((0 : Nat) : Int)) := by rw [show h.ticks - 1 = (i : Int) - 1 - ((0 : Nat) : Int) by omega]
 simp (maxSteps := 1000000) only [xE_ty, xE_fn, xE_bin, xE_oi, xE_oc, xE_ok, VL,VM,↓VG,reduceIte,reduceCtorEq,zA,zB,zC,zD,zE,zF,zG,zH,zI,zJ, k2]
 ((repeat refine Ws ?_);refine Wf (by first|rfl|simp only [EV,zF,reduceIte]) ?_)
 ((repeat refine Ws ?_);refine W_exit ?_)
 simp (maxSteps := 1000000) only [xE_ty, xE_fn, xE_bin, xE_oi, xE_oc, xE_ok, VL,VM,↓VG,reduceIte,reduceCtorEq,zA,zB,zC,zD,zE,zF,zG,zH,zI,zJ]
 clear hR hno k1 k0 kn k2 hge hi
 ((repeat refine Ws ?_);refine W_region0 TE_ok ?_)
 simp (maxSteps := 1000000) only [xE_ty, xE_fn, xE_bin, xE_oi, xE_oc, xE_ok, VL,VM,↓VG,reduceIte,reduceCtorEq,zA,zB,zC,zD,zE,zF,zG,zH,zI,zJ, kt]
 ((repeat refine Ws ?_);refine W_block ?_; (repeat refine Ws ?_)); refine W_loopS (fun s : InSt => [(0, houseV h), (1, .ptr M.H.length 0), (4, spsV ((List.range i).map C)), (5, .ptr (M.H.length + 1) 0), (6, ovOf M.H.length h.first i tl), (9, vi ((i : Int) - 1 - (s.i : Int)))]) (fun s => ⟨M.H ++ (.obj (houseC h) :: .obj [vi 0, vi 1099511627776] :: s.L), M.lg⟩) (fun s => i - s.i) (fun s => s.i ≤ i ∧ (i ≠ 0 → s.L[tl]? = some (.obj (spCs (bwL h.first C i s.i))))) ⟨0, 0, L⟩ ⟨Nat.zero_le _, fun q => by rw [bwL_zero]; exact hL q⟩ ⟨rfl, rfl, rfl, rfl, rfl, kt2, trivial⟩ rfl ?_
 clear hL kt2
 rintro ⟨j, _, L⟩ ⟨hj, hL⟩
 simp only at hj hL
 ((repeat refine Ws ?_);refine W_region0 TE_ok ?_)
 rcases Nat.lt_or_ge j i with hlt | hge
 ·obtain ⟨p, rfl⟩ : ∃ p, i = p + 1 := ⟨i - 1, by omega⟩
  obtain ⟨m, hm⟩ : ∃ m, m + j = p := ⟨p - j, by omega⟩
  have k2 : (0 ≤ ((p + 1 : Nat) : Int) - 1 - (j : Int)) = True := eq_true (by omega)
  have hkm : ((p + 1 : Nat) : Int) - 1 - (j : Int) = (m : Int) := by omega
  have hL1 := hL (by omega)
  have hlen : (spCs (bwL h.first C (p + 1) j)).length = (p + 2) * 2 := by rw [spCs_len, bwL_len]
  have a1 := bwL_at (first := h.first) (C := C) (T := p + 1) (j := j) (t := m) (by omega)
  rw [if_neg (by omega)] at a1
  have a2 := bwL_at (first := h.first) (C := C) (T := p + 1) (j := j) (t := m + 1) (by omega)
  rw [if_pos (by omega), show p + 1 - (m + 1) = j by omega] at a2
  have b1 := spCs_at a1
  have b2 := spCs_at a2
  have k1 : -9223372036854775808 ≤ (m : Int) + 1 ∧ (m : Int) + 1 < 9223372036854775808 := by omega
  have k0 : 0 ≤ (m : Int) + 1 := by omega
  have kn : ((m : Int) + 1).toNat = m + 1 := by omega
  have k3 : -9223372036854775808 ≤ (m : Int) - 1 ∧ (m : Int) - 1 < 9223372036854775808 := by omega
  have k4 : 0 ≤ (m : Int) := by omega
  have u1 : (m < p + 2) = True := eq_true (by omega)
  have u2 : (m + 1 < p + 2) = True := eq_true (by omega)
  have u3 : (m * 2 + 2 ≤ (p + 2) * 2) = True := eq_true (by omega)
  have u4 : ((m + 1) * 2 + 2 ≤ (p + 2) * 2) = True := eq_true (by omega)
  have hx : ((List.range (p + 1)).map C)[m]? = some (C m) := by rw [List.getElem?_map, List.getElem?_range (by omega)]; rfl
  have hx' := map_at (f := spP) hx
  have hb1 := hfb m
  have hb2 := hCb m
  have hb3 := hbb j (by omega)
  have sb1 : Sb (C m) := ⟨by omega, by omega, by omega, by omega⟩
  have sb2 : Sb (bwd h.first C (p + 1) j) := ⟨by omega, by omega, by omega, by omega⟩
  have sb3 : Sb (negS (C m)) := ⟨by simp only [negS]; omega, by simp only [negS]; omega, by simp only [negS]; omega, by simp only [negS]; omega⟩
  have hsm : bothS (fwd h.first C m) (sumS [bwd h.first C (p + 1) j, negS (C m)]) = bwd h.first C (p + 1) (j + 1) := by
   simp only [sumS, bothS, negS, bwd, List.map_cons, List.map_nil, List.sum_cons, List.sum_nil, show p + 1 - (j + 1) = m by omega]
   congr 2 <;> omega
  have hst := bwL_set (first := h.first) (C := C) (T := p + 1) (j := j) (m := m) (by omega)
  have c4 := spCs_set (l := bwL h.first C (p + 1) j) (k := m) (bwd h.first C (p + 1) (j + 1)) (by rw [bwL_len]; omega)
  rw [hst] at c4
  simp (maxSteps := 1000000) only [xE_ty, xE_fn, xE_bin, xE_oi, xE_oc, xE_ok, VL,VM,↓VG,reduceIte,reduceCtorEq,zA,zB,zC,zD,zE,zF,zG,zH,zI,zJ, k2]
  ((repeat refine Ws ?_);refine Wt (by first|rfl|simp only [EV,zF,reduceIte]) ?_)
  ((repeat refine Ws ?_);refine W_skip ?_)
  simp (maxSteps := 1000000) only [xE_ty, xE_fn, xE_bin, xE_oi, xE_oc, xE_ok, VL,VM,↓VG,reduceIte,reduceCtorEq,zA,zB,zC,zD,zE,zF,zG,zH,zI,zJ]
  ((repeat refine Ws ?_);refine W_block ?_)
  (repeat refine Ws ?_)
  refine W_drawP TE_ok [] (by kernel_rfl) (by kernel_rfl) ?_
  generalize hi : mkPlan _ = infs
  cbv at hi
  subst hi
  simp (maxSteps := 1000000) only [xE_ty, xE_fn, xE_bin, xE_oi, xE_oc, xE_ok, VL,VM,↓VG,reduceIte,reduceCtorEq,zA,zB,zC,zD,zE,zF,zG,zH,zI,zJ, ovOf_succ, hkm, hL1, hlen, b1, b2, k0, k1, kn, k4, u1, u2, u3, u4, hx']
  apply call_d (f := 98) (fn := Try.f98) (by kernel_rfl) (by rfl)
  ·exact less_v (C m) _ sb1
  simp (maxSteps := 1000000) only [xE_ty, xE_fn, xE_bin, xE_oi, xE_oc, xE_ok, VL,VM,↓VG,reduceIte,reduceCtorEq,zA,zB,zC,zD,zE,zF,zG,zH,zI,zJ, ovOf_succ, hkm, hL1, hlen, b1, b2, k0, k1, kn, k4, u1, u2, u3, u4, hx']
  apply call_d (f := 97) (fn := Try.f97) (by kernel_rfl) (by rfl)
  ·exact sum_v [bwd h.first C (p + 1) j, negS (C m)] _ (by simp) (by
   intro x hx
   simp only [List.mem_cons, List.mem_nil_iff, or_false] at hx
   rcases hx with rfl | rfl
   ·exact sb2
   ·exact sb3)
  simp (maxSteps := 1000000) only [xE_ty, xE_fn, xE_bin, xE_oi, xE_oc, xE_ok, VL,VM,↓VG,reduceIte,reduceCtorEq,zA,zB,zC,zD,zE,zF,zG,zH,zI,zJ, ovOf_succ, hkm, hL1, hlen, b1, b2, k0, k1, kn, k4, u1, u2, u3, u4, hx']
  apply call_d (f := 96) (fn := Try.f96) (by kernel_rfl) (by rfl)
  ·exact both_v (fwd h.first C m) (sumS [bwd h.first C (p + 1) j, negS (C m)]) _
  rw [hsm]
  simp (maxSteps := 1000000) only [xE_ty, xE_fn, xE_bin, xE_oi, xE_oc, xE_ok, VL,VM,↓VG,reduceIte,reduceCtorEq,zA,zB,zC,zD,zE,zF,zG,zH,zI,zJ, ovOf_succ, hkm, hL1, hlen, b1, b2, k0, k1, kn, k4, u1, u2, u3, u4, hx', c4]
  have hfin : vi ((m : Int) - 1) = vi (((p + 1 : Nat) : Int) - 1 - ((j + 1 : Nat) : Int)) := by rw [show (m : Int) - 1 = ((p + 1 : Nat) : Int) - 1 - ((j + 1 : Nat) : Int) by omega]
  ((repeat refine Ws ?_);refine W_region0 TE_ok ?_)
  simp (maxSteps := 1000000) only [xE_ty, xE_fn, xE_bin, xE_oi, xE_oc, xE_ok, VL,VM,↓VG,reduceIte,reduceCtorEq,zA,zB,zC,zD,zE,zF,zG,zH,zI,zJ, hkm, k3]
  refine LoopK.mk ⟨j + 1, 0, L.set tl (.obj (spCs (bwL h.first C (p + 1) (j + 1))))⟩ (by simp only; omega) ⟨hlt, List.getElem?_set_self (lt_of_get hL1)⟩ ⟨rfl, rfl, rfl, rfl, rfl, hfin, trivial⟩ rfl
 have k2 : (0 ≤ (i : Int) - 1 - (j : Int)) = False := eq_false (by omega)
 have hj3 : j = i := by omega
 subst hj3
 simp (maxSteps := 1000000) only [xE_ty, xE_fn, xE_bin, xE_oi, xE_oc, xE_ok, VL,VM,↓VG,reduceIte,reduceCtorEq,zA,zB,zC,zD,zE,zF,zG,zH,zI,zJ, k2]
 ((repeat refine Ws ?_);refine Wf (by first|rfl|simp only [EV,zF,reduceIte]) ?_)
 ((repeat refine Ws ?_);refine W_exit ?_)
 simp (maxSteps := 1000000) only [xE_ty, xE_fn, xE_bin, xE_oi, xE_oc, xE_ok, VL,VM,↓VG,reduceIte,reduceCtorEq,zA,zB,zC,zD,zE,zF,zG,zH,zI,zJ]
 ((repeat refine Ws ?_);refine W_region0 TE_ok ?_)
 simp (maxSteps := 1000000) only [xE_ty, xE_fn, xE_bin, xE_oi, xE_oc, xE_ok, VL,VM,↓VG,reduceIte,reduceCtorEq,zA,zB,zC,zD,zE,zF,zG,zH,zI,zJ]
 (repeat refine Ws ?_)
 refine W_ret ?_
 try simp only [thenQ, blockQ]
 refine own_ret (vs := [ovOf M.H.length h.first j tl, vb true]) (r := .tup [spsV (insideL h.first C j), vb true]) rfl ?_ (by simp [refs, refsL]) ⟨rfl, hR2.symm⟩
 have h3t : ∀ (n : Nat) (H : List VObj) (a b : VV), frz n H (.tup [a, b]) = .tup [frz n H a, frz n H b] := fun n H a b => by rw [frz, frzL, frzL, frzL]
 show frz _ _ (.tup [_, _]) = _
 rw [h3t]
 have : frz M.H.length (M.H ++ VObj.obj (houseC h) :: VObj.obj [vi 0, vi 1099511627776] :: L) (ovOf M.H.length h.first j tl) = spsV (insideL h.first C j) := by
  rcases j with _ | p
  ·rfl
  ·have := frz_spans (n0 := M.H.length) (id := M.H.length + (tl + 2)) (H := M.H ++ VObj.obj (houseC h) :: VObj.obj [vi 0, vi 1099511627776] :: L) (l := bwL h.first C (p + 1) (p + 1)) (by omega) (by rw [hget]; exact hL (by omega))
   rw [bwL_len] at this
   rw [ovOf_succ, ← bwL_end]
   exact this
 rw [this]
 rfl
end Go.Proofs.Ytmagiabapakhcaa.Vm
