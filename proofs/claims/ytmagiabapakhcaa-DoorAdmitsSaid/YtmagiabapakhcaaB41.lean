/- A part of the proofs about the chapter of the doors; it states no condition of its own. -/
import Derived.Test.YtmagiabapakhcaaB38
import Derived.Test.YtmagiabapakhcaaB40
set_option linter.unusedVariables false
set_option linter.unusedSimpArgs false
open Int renaming reduceLE → zA, reduceLT → zB, reduceToNat → zC, reduceNeg → zD
open Nat renaming reduceLT → zE, reduceEqDiff → zF, reduceAdd → zG, reduceSub → zH, reduceMul → zI, reduceLeDiff → zJ
/- The reference: how many people can be outside, on values. (Vm) -/
namespace Go.Proofs.Ytmagiabapakhcaa.Vm
open Go Go.Proofs
set_option maxHeartbeats 8000000 in
set_option maxRecDepth 8000 in
theorem Out_r (h : Ho) (V : HV h) (people : List Int) (ticks : Nat) (closed : List Int) (M : Mem) (hp : people.length = h.holds.length) (hpb : ∀ x ∈ people, 0 ≤ x ∧ x ≤ 1073741824) (ht : ticks ≤ 12) (hcl : closed.length ≤ 1000000) :
  VC Try.prog 79 [houseV h, intsV people, vi ticks, intsV closed] M (fun r M' => M' = M ∧ r = vi (leaveV h.holds.length h.doors ticks closed (comeOf people))) := by
 have n1 := V.n1
 have d1 := V.d1
 obtain ⟨nH, hnH⟩ : ∃ nH, nH = h.holds.length := ⟨_, rfl⟩
 have m1 : nH * (ticks + 1) ≤ 4 * 13 := Nat.mul_le_mul (by omega) (by omega)
 obtain ⟨N, hN⟩ : ∃ N, N = nH * (ticks + 1) + 2 := ⟨_, rfl⟩
 have hN2 : 2 ≤ N := by omega
 have hNI : (nH : Int) * ((ticks : Int) + 1) + 2 = (N : Int) := by rw [hN]; push_cast; rfl
 have k1 : -9223372036854775808 ≤ (ticks : Int) + 1 ∧ (ticks : Int) + 1 < 9223372036854775808 := by omega
 have k2 : -9223372036854775808 ≤ (nH : Int) * ((ticks : Int) + 1) ∧ (nH : Int) * ((ticks : Int) + 1) < 9223372036854775808 := by omega
 have k3 : -9223372036854775808 ≤ (N : Int) ∧ (N : Int) < 9223372036854775808 := by omega
 have q1 : (N * 24 ≤ 140737488355328) = True := eq_true (by omega)
 have q2 : (N ≤ 9223372036854775807) = True := eq_true (by omega)
 have q3 : (N * 8 ≤ 140737488355328) = True := eq_true (by omega)
 have hcm : ∀ i, i < nH → 0 ≤ comeOf people i ∧ comeOf people i ≤ 1073741824 := fun i hi => come_bd hpb (by omega) i
 have hdo := V.ne
 rw [← hnH] at hdo
 have hout := @out_eq N nH ticks h.doors closed (comeOf people) hN (by have := V.n0; omega) hcm hdo
 have hOk := fun k (hk : k ≤ h.doors.length) => @outR_ok N nH ticks h.doors closed (comeOf people) hN hcm hdo k hk
 refine VC_own' T_ok (f := 79) (fn := Try.f79) (by kernel_rfl) rfl Try.ntmps79 (by rfl) (by rfl) ?_
 ((repeat refine Ws ?_);refine Wr ?_)
 simp (maxSteps := 1000000) only [VL,VM,↓VG,reduceIte,reduceCtorEq,zA,zB,zC,zD,zE,zF,zG,zH,zI,zJ]
 ((repeat refine Ws ?_);refine Wr ?_)
 simp (maxSteps := 1000000) only [VL,VM,↓VG,reduceIte,reduceCtorEq,zA,zB,zC,zD,zE,zF,zG,zH,zI,zJ, ← hnH]
 ((repeat refine Ws ?_);refine Wr ?_)
 simp (maxSteps := 1000000) only [VL,VM,↓VG,reduceIte,reduceCtorEq,zA,zB,zC,zD,zE,zF,zG,zH,zI,zJ, k1, k2, hNI, k3, q1, q2, rep_flat]
 obtain ⟨H0, hH0⟩ : ∃ H0, H0 = M.H ++ [VObj.obj (houseC h)] := ⟨_, rfl⟩
 have hl0 : H0.length = M.H.length + 1 := by rw [hH0]; simp
 have hb0 : H0[M.H.length]? = some (VObj.obj (houseC h)) := by rw [hH0, hget0]; rfl
 have happ : ∀ L, M.H ++ (VObj.obj (houseC h) :: L) = H0 ++ L := fun L => by rw [hH0]; simp
 rw [happ, ← hl0]
 ((repeat refine Ws ?_);refine Wr ?_)
 simp (maxSteps := 1000000) only [VL,VM,↓VG,reduceIte,reduceCtorEq,zA,zB,zC,zD,zE,zF,zG,zH,zI,zJ]
 ((repeat refine Ws ?_);refine W_block ?_; (repeat refine Ws ?_)); refine W_loopS (fun s : FbSt => [(1, intsV people), (2, vi ticks), (3, intsV closed), (4, .ptr M.H.length 0), (9, vi nH), (10, .bf H0.length 0 N 1), (11, vi s.i)]) (fun s => ⟨H0 ++ (.obj (rowsB H0.length N s.i) :: List.replicate s.i (.obj (List.replicate N (vi 0)))), s.lg⟩) (fun s => N - s.i) (fun s => s.i ≤ N ∧ ∃ X, s.lg = M.lg ++ X ∧ ∀ e ∈ X, M.H.length ≤ e.1) ⟨0, M.lg⟩ ⟨Nat.zero_le _, [], by simp, by simp⟩ ⟨rfl, rfl, rfl, rfl, rfl, rfl, rfl, trivial⟩ (by simp [rowsB]) ?_
 rintro ⟨i, lg⟩ ⟨hi, X, rfl, hX⟩
 simp only at hi
 have k4 : -9223372036854775808 ≤ (i : Int) + 1 ∧ (i : Int) + 1 < 9223372036854775808 := by omega
 ((repeat refine Ws ?_);refine Wr ?_)
 rcases Nat.lt_or_ge i N with hlt | hge
 ·have k5 : ((i : Int) < (N : Int)) = True := eq_true (by omega)
  have hsp : List.take i (rowsB H0.length N i) ++ VV.bf (H0.length + (i + 1)) 0 N 1 :: List.drop (i + 1) (rowsB H0.length N i) = rowsB H0.length N (i + 1) := by
   rw [← rowsB_set hlt, List.set_eq_take_append_cons_drop, if_pos (by rw [rowsB_len (by omega)]; exact hlt), show H0.length + (i + 1) = H0.length + 1 + i by omega]
  have hle : (i + 1 ≤ (rowsB H0.length N i).length) = True := eq_true (by rw [rowsB_len (by omega)]; omega)
  have hltt : (i < N) = True := eq_true hlt
  simp (maxSteps := 1000000) only [VL,VM,↓VG,reduceIte,reduceCtorEq,zA,zB,zC,zD,zE,zF,zG,zH,zI,zJ, k5]
  ((repeat refine Ws ?_);refine Wt (by first|rfl|simp only [EV,zF,reduceIte]) ?_)
  ((repeat refine Ws ?_);refine W_skip ?_)
  simp (maxSteps := 1000000) only [VL,VM,↓VG,reduceIte,reduceCtorEq,zA,zB,zC,zD,zE,zF,zG,zH,zI,zJ]
  ((repeat refine Ws ?_);refine W_block ?_)
  ((repeat refine Ws ?_);refine Wr ?_)
  simp (maxSteps := 1000000) only [VL,VM,↓VG,reduceIte,reduceCtorEq,zA,zB,zC,zD,zE,zF,zG,zH,zI,zJ, q2, q3, rep_flat, hltt, List.length_replicate, hle, hsp]
  ((repeat refine Ws ?_);refine Wr ?_)
  simp (maxSteps := 1000000) only [VL,VM,↓VG,reduceIte,reduceCtorEq,zA,zB,zC,zD,zE,zF,zG,zH,zI,zJ, k4]
  obtain ⟨Y, y1, y2⟩ := addLg_Y H0.length [H0.length + (i + 1)] (M.lg ++ X)
  refine LoopK.mk ⟨i + 1, M.lg ++ (X ++ Y)⟩ (by simp only; omega) ⟨by simp only; omega, X ++ Y, rfl, fun e he => ?_⟩ ⟨rfl, rfl, rfl, rfl, rfl, rfl, rfl, trivial⟩ ?_
  ·rcases List.mem_append.1 he with he | he
   ·exact hX e he
   ·have := (y2 e he).1
    omega
  ·simp only
   rw [y1, List.append_assoc, List.replicate_succ']
 have k5 : ((i : Int) < (N : Int)) = False := eq_false (by omega)
 obtain rfl : i = N := by omega
 simp (maxSteps := 1000000) only [VL,VM,↓VG,reduceIte,reduceCtorEq,zA,zB,zC,zD,zE,zF,zG,zH,zI,zJ, k5]
 ((repeat refine Ws ?_);refine Wf (by first|rfl|simp only [EV,zF,reduceIte]) ?_)
 ((repeat refine Ws ?_);refine W_exit ?_)
 simp (maxSteps := 1000000) only [VL,VM,↓VG,reduceIte,reduceCtorEq,zA,zB,zC,zD,zE,zF,zG,zH,zI,zJ]
 have hFB : H0 ++ (VObj.obj (rowsB H0.length i i) :: List.replicate i (.obj (List.replicate i (vi 0)))) = FB H0 i (tabOfW i (startR nH ticks (comeOf people) 0)) := by
  rw [rowsB_all]
  unfold FB startR tabOfW zeros2
  simp
 rw [hFB]
 clear hFB k5 hge k4 hi
 obtain ⟨lg, hlg⟩ : ∃ lg, lg = M.lg ++ X := ⟨_, rfl⟩
 rw [← hlg]
 have k4 : -9223372036854775808 ≤ ((i - 1 : Nat) : Int) ∧ ((i - 1 : Nat) : Int) < 9223372036854775808 := by omega
 have hlast : (i : Int) - 1 = ((i - 1 : Nat) : Int) := by omega
 ((repeat refine Ws ?_);refine Wr ?_)
 simp (maxSteps := 1000000) only [VL,VM,↓VG,reduceIte,reduceCtorEq,zA,zB,zC,zD,zE,zF,zG,zH,zI,zJ, k4, hlast]
 ((repeat refine Ws ?_);refine Wr ?_)
 simp (maxSteps := 1000000) only [VL,VM,↓VG,reduceIte,reduceCtorEq,zA,zB,zC,zD,zE,zF,zG,zH,zI,zJ]
 -- a table of ways, and one way more
 have sqW : ∀ ws : List Wa, (∀ w ∈ ws, WaOk i w) → ws.length ≤ 1000 → Sq i (tabOfW i ws) ∧ ∀ a b, 0 ≤ at2 (tabOfW i ws) a b ∧ at2 (tabOfW i ws) a b ≤ 1073741824 * 1000 := fun ws hw hl => by
  obtain ⟨h1, h2⟩ := tabW_ok _ ws rfl hw
  refine ⟨h1, fun a b => ⟨(h2 a b).1, ?_⟩⟩
  have := (h2 a b).2
  omega
 have wLen : ∀ k, k ≤ h.doors.length → (outR i nH h.doors ticks closed (comeOf people) k).length ≤ 200 := fun k hk => outR_len (by omega) (by omega) ht
 have stOk : ∀ k, k ≤ nH → ∀ w ∈ startR nH ticks (comeOf people) k, WaOk i w := fun k hk => startR_ok hN hcm hk
 have stLen : ∀ k, k ≤ nH → (startR nH ticks (comeOf people) k).length ≤ 200 := fun k hk => by
  have := flatMap_len (fun i => hallR nH (comeOf people) i ticks) 13 (List.range k) fun i _ => by simp [hallR]; omega
  rw [List.length_range] at this
  unfold startR
  omega
 have haOk : ∀ k, k < nH → ∀ t, t ≤ ticks → ∀ w ∈ hallR nH (comeOf people) k t, WaOk i w := fun k hk t ht' w hw => by
  rcases List.mem_cons.1 hw with rfl | hw
  ·exact hall0_ok hN hcm hk
  ·obtain ⟨t', ht'', rfl⟩ := List.mem_map.1 hw
   rw [List.mem_range] at ht''
   exact staR_ok hN hk (by omega)
 have haLen : ∀ k t, t ≤ ticks → (hallR nH (comeOf people) k t).length ≤ 13 := fun k t ht' => by simp [hallR]; omega
 ((repeat refine Ws ?_);refine W_block ?_; (repeat refine Ws ?_)); refine W_loopS (fun j : Nat => [(1, intsV people), (2, vi ticks), (3, intsV closed), (4, .ptr M.H.length 0), (9, vi nH), (10, .bf H0.length 0 i 1), (12, vi ((i - 1 : Nat) : Int)), (13, vi j)]) (fun j => ⟨FB H0 i (tabOfW i (startR nH ticks (comeOf people) j)), lg⟩) (fun j => nH - j) (fun j => j ≤ nH) 0 (Nat.zero_le _) ⟨rfl, rfl, rfl, rfl, rfl, rfl, rfl, rfl, trivial⟩ rfl ?_
 intro j hj
 have k5 : -9223372036854775808 ≤ (j : Int) + 1 ∧ (j : Int) + 1 < 9223372036854775808 := by omega
 ((repeat refine Ws ?_);refine Wr ?_)
 rcases Nat.lt_or_ge j nH with hlt | hge
 ·have k6 : ((j : Int) < (nH : Int)) = True := eq_true (by omega)
  have hx : people[j]? = some (comeOf people j) := by
   unfold comeOf
   rw [List.getD_eq_getElem?_getD, List.getElem?_eq_getElem (by omega)]; rfl
  have hx' := map_at (f := intP) hx
  have h0j := place_lt (t := 0) hN hlt (Nat.zero_le _)
  rw [Nat.zero_mul, Nat.add_zero] at h0j
  obtain ⟨hs, _⟩ := sqW _ (stOk j hj) (by have := stLen j hj; omega)
  have hz := @startR_0 nH ticks (comeOf people) j
  rw [← tabW_at _ _ rfl (stOk j hj)] at hz
  have hnx : upd2 (tabOfW i (startR nH ticks (comeOf people) j)) 0 (1 + j) (comeOf people j) = tabOfW i (startR nH ticks (comeOf people) j ++ hallR nH (comeOf people) j 0) := by
   rw [upd_add _ hz]
   exact (tabW_succ _ _ _).symm
  generalize tabOfW i (startR nH ticks (comeOf people) j) = R at hs hnx
  have k7 : -9223372036854775808 ≤ ((1 + j : Nat) : Int) ∧ ((1 + j : Nat) : Int) < 9223372036854775808 := by omega
  have k8 : 1 + (j : Int) = ((1 + j : Nat) : Int) := by omega
  have k9 : ((0 : Nat) < i) = True := eq_true (by omega)
  have k10 : (1 + j < i) = True := eq_true (by omega)
  have f0 := fun L => FB_row (H0 := H0) hs L (i := 0) (by omega)
  have fs := fun L => FB_set (H0 := H0) hs L (i := 0) (by omega) (1 + j) (comeOf people j)
  have hra := FB_rowat (H0 := H0) (N := i) (i := 0) (by omega)
  have f1 := FB_0 (H0 := H0) (N := i) (R := R)
  have fle := FB_le hs (i := 0) (j := 1 + j) (by omega) (by omega)
  have fsp := FB_sp hs (i := 0) (j := 1 + j) (by omega) (by omega) (comeOf people j)
  simp only [Nat.add_zero, Nat.add_assoc] at f0 fs hra f1 fle fsp
  have f0n := f0 []
  have fsn := fs []
  have f1n := f1 []
  simp only [List.append_nil] at f0n fsn f1n
  simp (maxSteps := 1000000) only [VL,VM,↓VG,reduceIte,reduceCtorEq,zA,zB,zC,zD,zE,zF,zG,zH,zI,zJ, k6]
  ((repeat refine Ws ?_);refine Wt (by first|rfl|simp only [EV,zF,reduceIte]) ?_)
  ((repeat refine Ws ?_);refine W_skip ?_)
  simp (maxSteps := 1000000) only [VL,VM,↓VG,reduceIte,reduceCtorEq,zA,zB,zC,zD,zE,zF,zG,zH,zI,zJ]
  ((repeat refine Ws ?_);refine W_block ?_)
  (repeat refine Ws ?_)
  refine W_drawP T_ok [] (by kernel_rfl) (by kernel_rfl) ?_
  generalize hi : mkPlan _ = infs
  cbv at hi
  subst hi
  simp (maxSteps := 1000000) only [VL,VM,↓VG,reduceIte,reduceCtorEq,zA,zB,zC,zD,zE,zF,zG,zH,zI,zJ, hx', k7, k8, k9, k10, f0n, fsn, f1n, hra, fle, fsp]
  clear f0 fs f1 f0n fsn f1n hra fle fsp k7 k8 k9 k10 hz
  rw [hnx]
  clear hnx hs R hx hx'
  ((repeat refine Ws ?_);refine Wr ?_)
  simp (maxSteps := 1000000) only [VL,VM,↓VG,reduceIte,reduceCtorEq,zA,zB,zC,zD,zE,zF,zG,zH,zI,zJ]
  ((repeat refine Ws ?_);refine W_block ?_; (repeat refine Ws ?_)); refine W_loopS (fun t : Nat => [(1, intsV people), (2, vi ticks), (3, intsV closed), (4, .ptr M.H.length 0), (9, vi nH), (10, .bf H0.length 0 i 1), (12, vi ((i - 1 : Nat) : Int)), (13, vi j), (14, vi t)]) (fun t => ⟨FB H0 i (tabOfW i (startR nH ticks (comeOf people) j ++ hallR nH (comeOf people) j t)), lg⟩) (fun t => ticks - t) (fun t => t ≤ ticks) 0 (Nat.zero_le _) ⟨rfl, rfl, rfl, rfl, rfl, rfl, rfl, rfl, rfl, trivial⟩ rfl ?_
  intro t ht1
  have k7 : -9223372036854775808 ≤ (t : Int) + 1 ∧ (t : Int) + 1 < 9223372036854775808 := by omega
  ((repeat refine Ws ?_);refine Wr ?_)
  rcases Nat.lt_or_ge t ticks with htt | hge
  ·have k8 : ((t : Int) < (ticks : Int)) = True := eq_true (by omega)
   have okW : ∀ w ∈ startR nH ticks (comeOf people) j ++ hallR nH (comeOf people) j t, WaOk i w := fun w hw => by
    rcases List.mem_append.1 hw with hw | hw
    ·exact stOk j hj w hw
    ·exact haOk j hlt t (by omega) w hw
   obtain ⟨hs, _⟩ := sqW _ okW (by rw [List.length_append]; have := stLen j hj; have := haLen j t (by omega); omega)
   have g0 := place_lt (t := t) hN hlt (by omega)
   have g1 := place_lt (t := t + 1) hN hlt (by omega)
   have hz := @startR_t nH ticks (comeOf people) j t hlt
   rw [← tabW_at _ _ rfl okW] at hz
   have hnx : upd2 (tabOfW i (startR nH ticks (comeOf people) j ++ hallR nH (comeOf people) j t)) (1 + t * nH + j) (1 + (t + 1) * nH + j) 1073741824 = tabOfW i (startR nH ticks (comeOf people) j ++ hallR nH (comeOf people) j (t + 1)) := by
    rw [upd_add _ hz, hallR_succ, ← List.append_assoc]
    exact (tabW_succ _ _ _).symm
   generalize tabOfW i (startR nH ticks (comeOf people) j ++ hallR nH (comeOf people) j t) = R at hs hnx
   obtain ⟨p0, hp0⟩ : ∃ p0, p0 = t * nH := ⟨_, rfl⟩
   obtain ⟨p1, hp1⟩ : ∃ p1, p1 = (t + 1) * nH := ⟨_, rfl⟩
   have r0 : (t : Int) * (nH : Int) = (p0 : Int) := by rw [hp0]; push_cast; rfl
   have r1 : ((t : Int) + 1) * (nH : Int) = (p1 : Int) := by rw [hp1]; push_cast; rfl
   rw [← hp0] at g0 hnx
   rw [← hp1] at g1 hnx
   simp only [Nat.add_assoc] at g0 g1 hnx
   have r2 : (1 : Int) + (p0 : Int) = ((1 + p0 : Nat) : Int) := by omega
   have r3 : ((1 + p0 : Nat) : Int) + (j : Int) = ((1 + (p0 + j) : Nat) : Int) := by omega
   have r4 : (1 : Int) + (p1 : Int) = ((1 + p1 : Nat) : Int) := by omega
   have r5 : ((1 + p1 : Nat) : Int) + (j : Int) = ((1 + (p1 + j) : Nat) : Int) := by omega
   have b1 : -9223372036854775808 ≤ (p0 : Int) ∧ (p0 : Int) < 9223372036854775808 := by omega
   have b2 : -9223372036854775808 ≤ (p1 : Int) ∧ (p1 : Int) < 9223372036854775808 := by omega
   have b3 : -9223372036854775808 ≤ ((1 + p0 : Nat) : Int) ∧ ((1 + p0 : Nat) : Int) < 9223372036854775808 := by omega
   have b4 : -9223372036854775808 ≤ ((1 + p1 : Nat) : Int) ∧ ((1 + p1 : Nat) : Int) < 9223372036854775808 := by omega
   have b5 : -9223372036854775808 ≤ ((1 + (p0 + j) : Nat) : Int) ∧ ((1 + (p0 + j) : Nat) : Int) < 9223372036854775808 := by omega
   have b6 : -9223372036854775808 ≤ ((1 + (p1 + j) : Nat) : Int) ∧ ((1 + (p1 + j) : Nat) : Int) < 9223372036854775808 := by omega
   have ga : 1 + (p0 + j) < i := by omega
   have gb : 1 + (p1 + j) < i := by omega
   generalize hA : 1 + (p0 + j) = A at *
   generalize hB : 1 + (p1 + j) = B at *
   have f0 := FB_row (H0 := H0) hs [] ga
   have fs := FB_set (H0 := H0) hs [] ga B 1073741824
   have hra := FB_rowat (H0 := H0) ga
   have f1 := FB_0 (H0 := H0) (N := i) (R := R) []
   have fle := FB_le hs ga gb
   have fsp := FB_sp hs ga gb 1073741824
   simp only [Nat.add_assoc, List.append_nil] at f0 fs hra f1 fle fsp
   simp (maxSteps := 1000000) only [VL,VM,↓VG,reduceIte,reduceCtorEq,zA,zB,zC,zD,zE,zF,zG,zH,zI,zJ, k8]
   ((repeat refine Ws ?_);refine Wt (by first|rfl|simp only [EV,zF,reduceIte]) ?_)
   ((repeat refine Ws ?_);refine W_skip ?_)
   simp (maxSteps := 1000000) only [VL,VM,↓VG,reduceIte,reduceCtorEq,zA,zB,zC,zD,zE,zF,zG,zH,zI,zJ]
   ((repeat refine Ws ?_);refine W_block ?_)
   ((repeat refine Ws ?_);refine Wr ?_)
   simp (maxSteps := 1000000) only [VL,VM,↓VG,reduceIte,reduceCtorEq,zA,zB,zC,zD,zE,zF,zG,zH,zI,zJ, k7, r0, r1, r2, r3, r4, r5, b1, b2, b3, b4, b5, b6, eq_true ga, eq_true gb, f0, fs, f1, hra, fle, fsp]
   rw [hnx]
   ((repeat refine Ws ?_);refine Wr ?_)
   simp (maxSteps := 1000000) only [VL,VM,↓VG,reduceIte,reduceCtorEq,zA,zB,zC,zD,zE,zF,zG,zH,zI,zJ, k7]
   refine LoopK.mk (t + 1) (by omega) (by omega) ⟨rfl, rfl, rfl, rfl, rfl, rfl, rfl, rfl, rfl, trivial⟩ rfl
  have k8 : ((t : Int) < (ticks : Int)) = False := eq_false (by omega)
  obtain rfl : t = ticks := by omega
  simp (maxSteps := 1000000) only [VL,VM,↓VG,reduceIte,reduceCtorEq,zA,zB,zC,zD,zE,zF,zG,zH,zI,zJ, k8]
  ((repeat refine Ws ?_);refine Wf (by first|rfl|simp only [EV,zF,reduceIte]) ?_)
  ((repeat refine Ws ?_);refine W_exit ?_)
  simp (maxSteps := 1000000) only [VL,VM,↓VG,reduceIte,reduceCtorEq,zA,zB,zC,zD,zE,zF,zG,zH,zI,zJ]
  rw [← startR_succ]
  ((repeat refine Ws ?_);refine Wr ?_)
  simp (maxSteps := 1000000) only [VL,VM,↓VG,reduceIte,reduceCtorEq,zA,zB,zC,zD,zE,zF,zG,zH,zI,zJ, k5]
  refine LoopK.mk (j + 1) (by omega) (by omega) ⟨rfl, rfl, rfl, rfl, rfl, rfl, rfl, rfl, trivial⟩ rfl
 have k6 : ((j : Int) < (nH : Int)) = False := eq_false (by omega)
 obtain rfl : nH = j := by omega
 simp (maxSteps := 1000000) only [VL,VM,↓VG,reduceIte,reduceCtorEq,zA,zB,zC,zD,zE,zF,zG,zH,zI,zJ, k6]
 ((repeat refine Ws ?_);refine Wf (by first|rfl|simp only [EV,zF,reduceIte]) ?_)
 ((repeat refine Ws ?_);refine W_exit ?_)
 simp (maxSteps := 1000000) only [VL,VM,↓VG,reduceIte,reduceCtorEq,zA,zB,zC,zD,zE,zF,zG,zH,zI,zJ]
 clear hge k6 k5 hj stOk stLen haOk haLen
 have h00 : startR nH ticks (comeOf people) nH = outR i nH h.doors ticks closed (comeOf people) 0 := by simp [outR]
 rw [h00]
 clear h00
 ((repeat refine Ws ?_);refine Wr ?_)
 simp (maxSteps := 1000000) only [VL,VM,↓VG,reduceIte,reduceCtorEq,zA,zB,zC,zD,zE,zF,zG,zH,zI,zJ]
 ((repeat refine Ws ?_);refine W_block ?_; (repeat refine Ws ?_)); refine W_loopS (fun s : JSt => [(2, vi ticks), (3, intsV closed), (4, .ptr M.H.length 0), (9, vi nH), (10, .bf H0.length 0 i 1), (12, vi ((i - 1 : Nat) : Int)), (15, vi s.i)]) (fun s => ⟨FB H0 i (tabOfW i (outR i nH h.doors ticks closed (comeOf people) s.i)) ++ s.junk, lg⟩) (fun s => h.doors.length - s.i) (fun s => s.i ≤ h.doors.length) ⟨0, []⟩ (Nat.zero_le _) ⟨rfl, rfl, rfl, rfl, rfl, rfl, rfl, trivial⟩ (by simp) ?_
 rintro ⟨k, junk⟩ hk
 simp only at hk
 have k5 : -9223372036854775808 ≤ (k : Int) + 1 ∧ (k : Int) + 1 < 9223372036854775808 := by omega
 obtain ⟨hs0, hb1⟩ := sqW _ (hOk k hk) (by have := wLen k hk; omega)
 have hbox := fun (R : List (List Int)) L => FB_old (N := i) (R := R) L hb0
 ((repeat refine Ws ?_);refine Wr ?_)
 rcases Nat.lt_or_ge k h.doors.length with hlt | hge
 ·have k6 : ((k : Int) < (h.doors.length : Int)) = True := eq_true (by omega)
  have hx : h.doors[k]? = some (h.doors.getD k do0) := by
   rw [List.getD_eq_getElem?_getD, List.getElem?_eq_getElem hlt]; rfl
  have hdm : h.doors.getD k do0 ∈ h.doors := by
   rw [List.getD_eq_getElem?_getD, List.getElem?_eq_getElem hlt]; exact List.getElem_mem hlt
  obtain ⟨dOk, dne⟩ := hdo _ hdm
  have hx' := map_at (f := doP) hx
  have hFl := FB_len (H0 := H0) hs0
  simp only [Nat.add_assoc] at hFl
  simp (maxSteps := 1000000) only [VL,VM,↓VG,reduceIte,reduceCtorEq,zA,zB,zC,zD,zE,zF,zG,zH,zI,zJ, hbox, k6]
  ((repeat refine Ws ?_);refine Wt (by first|rfl|simp only [EV,zF,reduceIte]) ?_)
  ((repeat refine Ws ?_);refine W_skip ?_)
  simp (maxSteps := 1000000) only [VL,VM,↓VG,reduceIte,reduceCtorEq,zA,zB,zC,zD,zE,zF,zG,zH,zI,zJ]
  ((repeat refine Ws ?_);refine W_block ?_)
  ((repeat refine Ws ?_);refine Wr ?_)
  simp (maxSteps := 1000000) only [VL,VM,↓VG,reduceIte,reduceCtorEq,zA,zB,zC,zD,zE,zF,zG,zH,zI,zJ, hbox, hx', hFl, FB_new hs0, FB_newset hs0]
  obtain ⟨d, hd⟩ : ∃ d, d = h.doors.getD k do0 := ⟨_, rfl⟩
  rw [← hd] at dOk dne ⊢
  obtain ⟨B, hB⟩ : ∃ B, B = H0.length + (1 + (i + junk.length)) := ⟨_, rfl⟩
  obtain ⟨L, hL⟩ : ∃ L, L = junk ++ [VObj.obj [vi d.a, vi d.b, vi d.flow]] := ⟨_, rfl⟩
  have hgB : ∀ R, Sq i R → (FB H0 i R ++ L)[B]? = some (VObj.obj [vi d.a, vi d.b, vi d.flow]) := fun R hs => by
   rw [hL, hB]; exact FB_new hs _ _
  rw [← hB, ← hL]
  have a0 := dOk.a0
  have a1 := dOk.a1
  have b0 := dOk.b0
  have b1 := dOk.b1
  have f0 := dOk.f0
  have f1 := dOk.f1
  clear hx hx' hdm hFl
  have wOk : ∀ t, t ≤ ticks → ∀ w ∈ outR i nH h.doors ticks closed (comeOf people) k ++ (List.range t).flatMap fun t => doorR i nH t d, WaOk i w := fun t ht' w hw => by
   rcases List.mem_append.1 hw with hw | hw
   ·exact hOk k hk w hw
   ·obtain ⟨t', ht'', hw⟩ := List.mem_flatMap.1 hw
    rw [List.mem_range] at ht''
    exact doorR_ok hN (by omega) dOk dne w hw
  have wLn : ∀ t, t ≤ ticks → (outR i nH h.doors ticks closed (comeOf people) k ++ (List.range t).flatMap fun t => doorR i nH t d).length ≤ 300 := fun t ht' => by
   have h1 := wLen k hk
   have h2 := flatMap_len (fun t => doorR i nH t d) 2 (List.range t) fun t _ => by
    unfold doorR
    split
    ·simp
    ·split <;> simp
   rw [List.length_range] at h2
   rw [List.length_append]
   omega
  ((repeat refine Ws ?_);refine Wr ?_)
  simp (maxSteps := 1000000) only [VL,VM,↓VG,reduceIte,reduceCtorEq,zA,zB,zC,zD,zE,zF,zG,zH,zI,zJ]
  ((repeat refine Ws ?_);refine W_block ?_; (repeat refine Ws ?_)); refine W_loopS (fun t : Nat => [(2, vi ticks), (3, intsV closed), (4, .ptr M.H.length 0), (9, vi nH), (10, .bf H0.length 0 i 1), (12, vi ((i - 1 : Nat) : Int)), (15, vi k), (16, .ptr B 0), (17, vi t)]) (fun t => ⟨FB H0 i (tabOfW i (outR i nH h.doors ticks closed (comeOf people) k ++ (List.range t).flatMap fun t => doorR i nH t d)) ++ L, lg⟩) (fun t => ticks - t) (fun t => t ≤ ticks ∧ (closed.contains (k : Int) = true → t = 0)) 0 ⟨Nat.zero_le _, fun _ => rfl⟩ ⟨rfl, rfl, rfl, rfl, rfl, rfl, rfl, rfl, rfl, trivial⟩ (by simp) ?_
  rintro t ⟨ht1, htc⟩
  have k7 : -9223372036854775808 ≤ (t : Int) + 1 ∧ (t : Int) + 1 < 9223372036854775808 := by omega
  obtain ⟨hs, hb⟩ := sqW _ (wOk t ht1) (by have := wLn t ht1; omega)
  by_cases hgo : t < ticks ∧ closed.contains (k : Int) = false
  rotate_left
  ·have hend : tabOfW i (outR i nH h.doors ticks closed (comeOf people) k ++ (List.range t).flatMap fun t => doorR i nH t d) = tabOfW i (outR i nH h.doors ticks closed (comeOf people) (k + 1)) := by
    rw [outR_succ]
    unfold doorTR
    cases hc : closed.contains (k : Int) with
    | true =>
     rw [htc hc]
     simp
    | false =>
     have : t = ticks := by
      rcases Nat.lt_or_ge t ticks with q | q
      ·exact absurd ⟨q, hc⟩ hgo
      ·omega
     rw [this, hd]
     rfl
   (repeat refine Ws ?_)
   refine W_then [(2, vi ticks), (3, intsV closed), (4, .ptr M.H.length 0), (9, vi nH), (10, .bf H0.length 0 i 1), (12, vi ((i - 1 : Nat) : Int)), (15, vi k), (99, vb false)] ⟨FB H0 i (tabOfW i (outR i nH h.doors ticks closed (comeOf people) k ++ (List.range t).flatMap fun t => doorR i nH t d)) ++ L, lg⟩ ?_ ?_
   ·((repeat refine Ws ?_);refine Wr ?_)
    rcases Nat.lt_or_ge t ticks with htt | hge
    ·have k8 : ((t : Int) < (ticks : Int)) = True := eq_true (by omega)
     have hc : closed.contains (k : Int) = true := by
      cases hc : closed.contains (k : Int) with
      | true => rfl
      | false => exact absurd ⟨htt, hc⟩ hgo
     simp (maxSteps := 1000000) only [VL,VM,↓VG,reduceIte,reduceCtorEq,zA,zB,zC,zD,zE,zF,zG,zH,zI,zJ, k8]
     apply call_eq (f := 102) (fn := Try.f102) (by kernel_rfl) (by rfl)
     ·exact has_r closed (k : Int) _ hcl
     simp (maxSteps := 1000000) only [VL,VM,↓VG,reduceIte,reduceCtorEq,zA,zB,zC,zD,zE,zF,zG,zH,zI,zJ, hc]
     exact ⟨rfl, rfl, rfl, rfl, rfl, rfl, rfl, rfl, trivial⟩
    ·have k8 : ((t : Int) < (ticks : Int)) = False := eq_false (by omega)
     simp (maxSteps := 1000000) only [VL,VM,↓VG,reduceIte,reduceCtorEq,zA,zB,zC,zD,zE,zF,zG,zH,zI,zJ, k8]
     exact ⟨rfl, rfl, rfl, rfl, rfl, rfl, rfl, rfl, trivial⟩
   intro e' hS
   refine WCode.weak (e' := [(2, vi ticks), (3, intsV closed), (4, .ptr M.H.length 0), (9, vi nH), (10, .bf H0.length 0 i 1), (12, vi ((i - 1 : Nat) : Int)), (15, vi k), (99, vb false)]) ?_ (Sub.ok hS)
   ((repeat refine Ws ?_);refine Wf (by first|rfl|simp only [EV,zF,reduceIte]) ?_)
   ((repeat refine Ws ?_);refine W_exit ?_)
   simp (maxSteps := 1000000) only [VL,VM,↓VG,reduceIte,reduceCtorEq,zA,zB,zC,zD,zE,zF,zG,zH,zI,zJ]
   rw [hend]
   ((repeat refine Ws ?_);refine Wr ?_)
   simp (maxSteps := 1000000) only [VL,VM,↓VG,reduceIte,reduceCtorEq,zA,zB,zC,zD,zE,zF,zG,zH,zI,zJ, k5]
   refine LoopK.mk ⟨k + 1, L⟩ (by simp only; omega) (by simp only; omega) ⟨rfl, rfl, rfl, rfl, rfl, rfl, rfl, trivial⟩ rfl
  obtain ⟨htt, hc⟩ := hgo
  have k8 : ((t : Int) < (ticks : Int)) = True := eq_true (by omega)
  have hR := hgB _ hs
  ((repeat refine Ws ?_);refine Wr ?_)
  simp (maxSteps := 1000000) only [VL,VM,↓VG,reduceIte,reduceCtorEq,zA,zB,zC,zD,zE,zF,zG,zH,zI,zJ, k8]
  apply call_eq (f := 102) (fn := Try.f102) (by kernel_rfl) (by rfl)
  ·exact has_r closed (k : Int) _ hcl
  simp (maxSteps := 1000000) only [VL,VM,↓VG,reduceIte,reduceCtorEq,zA,zB,zC,zD,zE,zF,zG,zH,zI,zJ, hc]
  ((repeat refine Ws ?_);refine Wt (by first|rfl|simp only [EV,zF,reduceIte]) ?_)
  ((repeat refine Ws ?_);refine W_skip ?_)
  simp (maxSteps := 1000000) only [VL,VM,↓VG,reduceIte,reduceCtorEq,zA,zB,zC,zD,zE,zF,zG,zH,zI,zJ]
  ((repeat refine Ws ?_);refine W_block ?_)
  ((repeat refine Ws ?_);refine W_block ?_)
  have hnext : tabOfW i (outR i nH h.doors ticks closed (comeOf people) k ++ (List.range (t + 1)).flatMap fun t => doorR i nH t d) = tabOfW i ((outR i nH h.doors ticks closed (comeOf people) k ++ (List.range t).flatMap fun t => doorR i nH t d) ++ doorR i nH t d) := by
   rw [List.range_succ, List.flatMap_append, List.append_assoc]; simp
  have hone : ∀ w, tabOfW i ((outR i nH h.doors ticks closed (comeOf people) k ++ (List.range t).flatMap fun t => doorR i nH t d) ++ [w]) = add2 (tabOfW i (outR i nH h.doors ticks closed (comeOf people) k ++ (List.range t).flatMap fun t => doorR i nH t d)) w := fun w => tabW_succ _ _ _
  have htwo : ∀ w w', tabOfW i ((outR i nH h.doors ticks closed (comeOf people) k ++ (List.range t).flatMap fun t => doorR i nH t d) ++ [w, w']) = add2 (add2 (tabOfW i (outR i nH h.doors ticks closed (comeOf people) k ++ (List.range t).flatMap fun t => doorR i nH t d)) w) w' := fun w w' => by
   rw [show ∀ l : List Wa, l ++ [w, w'] = (l ++ [w]) ++ [w'] from fun l => by simp, tabW_succ, hone]
  generalize tabOfW i (outR i nH h.doors ticks closed (comeOf people) k ++ (List.range t).flatMap fun t => doorR i nH t d) = R at hs hb hR hone htwo ⊢
  obtain ⟨p0, hp0⟩ : ∃ p0, p0 = t * nH := ⟨_, rfl⟩
  obtain ⟨p1, hp1⟩ : ∃ p1, p1 = (t + 1) * nH := ⟨_, rfl⟩
  have r0 : (t : Int) * (nH : Int) = (p0 : Int) := by rw [hp0]; push_cast; rfl
  have r1 : ((t : Int) + 1) * (nH : Int) = (p1 : Int) := by rw [hp1]; push_cast; rfl
  have r2 : (1 : Int) + (p0 : Int) = ((1 + p0 : Nat) : Int) := by omega
  have r4 : (1 : Int) + (p1 : Int) = ((1 + p1 : Nat) : Int) := by omega
  have gg0 := place_lt (t := t) (i := 0) hN (by have := V.n0; omega) (by omega)
  have gg1 := place_lt (t := t + 1) (i := 0) hN (by have := V.n0; omega) (by omega)
  rw [← hp0] at gg0
  rw [← hp1] at gg1
  have b1' : -9223372036854775808 ≤ (p0 : Int) ∧ (p0 : Int) < 9223372036854775808 := by omega
  have b2' : -9223372036854775808 ≤ (p1 : Int) ∧ (p1 : Int) < 9223372036854775808 := by omega
  have b3 : -9223372036854775808 ≤ ((1 + p0 : Nat) : Int) ∧ ((1 + p0 : Nat) : Int) < 9223372036854775808 := by omega
  have b4 : -9223372036854775808 ≤ ((1 + p1 : Nat) : Int) ∧ ((1 + p1 : Nat) : Int) < 9223372036854775808 := by omega
  ((repeat refine Ws ?_);refine Wr ?_)
  by_cases ha : d.a < 0
  ·have e1 : (d.a < 0) = True := eq_true ha
   simp (maxSteps := 1000000) only [VL,VM,↓VG,reduceIte,reduceCtorEq,zA,zB,zC,zD,zE,zF,zG,zH,zI,zJ, hR, e1]
   ((repeat refine Ws ?_);refine Wt (by first|rfl|simp only [EV,zF,reduceIte]) ?_)
   obtain ⟨bb, hbb⟩ : ∃ bb : Nat, d.b = (bb : Int) := ⟨d.b.toNat, by omega⟩
   have g0 := place_lt (t := t) (i := bb) hN (by omega) (by omega)
   have hnx : add2 R ⟨1 + t * nH + bb, i - 1, d.flow⟩ = tabOfW i (outR i nH h.doors ticks closed (comeOf people) k ++ (List.range (t + 1)).flatMap fun t => doorR i nH t d) := by
    rw [hnext, show doorR i nH t d = [⟨1 + t * nH + bb, i - 1, d.flow⟩] by unfold doorR; rw [if_pos ha, hbb, Int.toNat_natCast]]
    exact (hone _).symm
   rw [← hp0] at g0 hnx
   simp only [Nat.add_assoc] at g0 hnx
   have r3 : ((1 + p0 : Nat) : Int) + (bb : Int) = ((1 + (p0 + bb) : Nat) : Int) := by omega
   have b5 : -9223372036854775808 ≤ ((1 + (p0 + bb) : Nat) : Int) ∧ ((1 + (p0 + bb) : Nat) : Int) < 9223372036854775808 := by omega
   have ga : 1 + (p0 + bb) < i := by omega
   generalize hA : 1 + (p0 + bb) = A at *
   have gb : i - 1 < i := by omega
   have hb9 := hb A (i - 1)
   have b7 : -9223372036854775808 ≤ at2 R A (i - 1) + d.flow ∧ at2 R A (i - 1) + d.flow < 9223372036854775808 := by omega
   have f0 := FB_row (H0 := H0) hs L ga
   have fs := FB_set (H0 := H0) hs L ga (i - 1) (at2 R A (i - 1) + d.flow)
   have hra := FB_rowat (H0 := H0) ga
   have f1' := FB_0 (H0 := H0) (N := i) (R := R) L
   have fc := FB_cell hs ga gb
   have fle := FB_le hs ga gb
   have fsp := FB_sp hs ga gb (at2 R A (i - 1) + d.flow)
   simp only [Nat.add_assoc] at f0 fs hra f1' fle fsp
   rw [show upd2 R A (i - 1) (at2 R A (i - 1) + d.flow) = add2 R ⟨A, i - 1, d.flow⟩ from rfl, hnx] at fs
   (repeat refine Ws ?_)
   refine W_drawP T_ok [] (by kernel_rfl) (by kernel_rfl) ?_
   generalize hi : mkPlan _ = infs
   cbv at hi
   subst hi
   simp (maxSteps := 1000000) only [VL,VM,↓VG,reduceIte,reduceCtorEq,zA,zB,zC,zD,zE,zF,zG,zH,zI,zJ, hR, hbb, r0, r2, r3, b1', b3, b5, b7, eq_true ga, eq_true gb, f0, fs, f1', hra, fc, fle, fsp]
   ((repeat refine Ws ?_);refine Wr ?_)
   simp (maxSteps := 1000000) only [VL,VM,↓VG,reduceIte,reduceCtorEq,zA,zB,zC,zD,zE,zF,zG,zH,zI,zJ, k7]
   refine LoopK.mk (t + 1) (by omega) ⟨by omega, fun q => by first | exact (False.elim q) | (rw [hc] at q; cases q)⟩ ⟨rfl, rfl, rfl, rfl, rfl, rfl, rfl, rfl, rfl, trivial⟩ rfl
  have e1 : (d.a < 0) = False := eq_false ha
  simp (maxSteps := 1000000) only [VL,VM,↓VG,reduceIte,reduceCtorEq,zA,zB,zC,zD,zE,zF,zG,zH,zI,zJ, hR, e1]
  ((repeat refine Ws ?_);refine Wf (by first|rfl|simp only [EV,zF,reduceIte]) ?_)
  ((repeat refine Ws ?_);refine Wr ?_)
  by_cases hbn : d.b < 0
  ·have e2 : (d.b < 0) = True := eq_true hbn
   simp (maxSteps := 1000000) only [VL,VM,↓VG,reduceIte,reduceCtorEq,zA,zB,zC,zD,zE,zF,zG,zH,zI,zJ, hR, e2]
   ((repeat refine Ws ?_);refine Wt (by first|rfl|simp only [EV,zF,reduceIte]) ?_)
   obtain ⟨bb, hbb⟩ : ∃ bb : Nat, d.a = (bb : Int) := ⟨d.a.toNat, by omega⟩
   have g0 := place_lt (t := t) (i := bb) hN (by omega) (by omega)
   have hnx : add2 R ⟨1 + t * nH + bb, i - 1, d.flow⟩ = tabOfW i (outR i nH h.doors ticks closed (comeOf people) k ++ (List.range (t + 1)).flatMap fun t => doorR i nH t d) := by
    rw [hnext, show doorR i nH t d = [⟨1 + t * nH + bb, i - 1, d.flow⟩] by unfold doorR; rw [if_neg ha, if_pos hbn, hbb, Int.toNat_natCast]]
    exact (hone _).symm
   rw [← hp0] at g0 hnx
   simp only [Nat.add_assoc] at g0 hnx
   have r3 : ((1 + p0 : Nat) : Int) + (bb : Int) = ((1 + (p0 + bb) : Nat) : Int) := by omega
   have b5 : -9223372036854775808 ≤ ((1 + (p0 + bb) : Nat) : Int) ∧ ((1 + (p0 + bb) : Nat) : Int) < 9223372036854775808 := by omega
   have ga : 1 + (p0 + bb) < i := by omega
   generalize hA : 1 + (p0 + bb) = A at *
   have gb : i - 1 < i := by omega
   have hb9 := hb A (i - 1)
   have b7 : -9223372036854775808 ≤ at2 R A (i - 1) + d.flow ∧ at2 R A (i - 1) + d.flow < 9223372036854775808 := by omega
   have f0 := FB_row (H0 := H0) hs L ga
   have fs := FB_set (H0 := H0) hs L ga (i - 1) (at2 R A (i - 1) + d.flow)
   have hra := FB_rowat (H0 := H0) ga
   have f1' := FB_0 (H0 := H0) (N := i) (R := R) L
   have fc := FB_cell hs ga gb
   have fle := FB_le hs ga gb
   have fsp := FB_sp hs ga gb (at2 R A (i - 1) + d.flow)
   simp only [Nat.add_assoc] at f0 fs hra f1' fle fsp
   rw [show upd2 R A (i - 1) (at2 R A (i - 1) + d.flow) = add2 R ⟨A, i - 1, d.flow⟩ from rfl, hnx] at fs
   (repeat refine Ws ?_)
   refine W_drawP T_ok [] (by kernel_rfl) (by kernel_rfl) ?_
   generalize hi : mkPlan _ = infs
   cbv at hi
   subst hi
   simp (maxSteps := 1000000) only [VL,VM,↓VG,reduceIte,reduceCtorEq,zA,zB,zC,zD,zE,zF,zG,zH,zI,zJ, hR, hbb, r0, r2, r3, b1', b3, b5, b7, eq_true ga, eq_true gb, f0, fs, f1', hra, fc, fle, fsp]
   ((repeat refine Ws ?_);refine Wr ?_)
   simp (maxSteps := 1000000) only [VL,VM,↓VG,reduceIte,reduceCtorEq,zA,zB,zC,zD,zE,zF,zG,zH,zI,zJ, k7]
   refine LoopK.mk (t + 1) (by omega) ⟨by omega, fun q => by first | exact (False.elim q) | (rw [hc] at q; cases q)⟩ ⟨rfl, rfl, rfl, rfl, rfl, rfl, rfl, rfl, rfl, trivial⟩ rfl
  have e2 : (d.b < 0) = False := eq_false hbn
  simp (maxSteps := 1000000) only [VL,VM,↓VG,reduceIte,reduceCtorEq,zA,zB,zC,zD,zE,zF,zG,zH,zI,zJ, hR, e2]
  ((repeat refine Ws ?_);refine Wf (by first|rfl|simp only [EV,zF,reduceIte]) ?_)
  obtain ⟨aa, haa⟩ : ∃ aa : Nat, d.a = (aa : Int) := ⟨d.a.toNat, by omega⟩
  obtain ⟨bb, hbb⟩ : ∃ bb : Nat, d.b = (bb : Int) := ⟨d.b.toNat, by omega⟩
  have ga0 := place_lt (t := t) (i := aa) hN (by omega) (by omega)
  have ga1 := place_lt (t := t + 1) (i := aa) hN (by omega) (by omega)
  have gb0 := place_lt (t := t) (i := bb) hN (by omega) (by omega)
  have gb1 := place_lt (t := t + 1) (i := bb) hN (by omega) (by omega)
  have hnx : add2 (add2 R ⟨1 + t * nH + aa, 1 + (t + 1) * nH + bb, d.flow⟩) ⟨1 + t * nH + bb, 1 + (t + 1) * nH + aa, d.flow⟩ = tabOfW i (outR i nH h.doors ticks closed (comeOf people) k ++ (List.range (t + 1)).flatMap fun t => doorR i nH t d) := by
   rw [hnext, show doorR i nH t d = [⟨1 + t * nH + aa, 1 + (t + 1) * nH + bb, d.flow⟩, ⟨1 + t * nH + bb, 1 + (t + 1) * nH + aa, d.flow⟩] by unfold doorR; rw [if_neg ha, if_neg hbn, haa, hbb, Int.toNat_natCast, Int.toNat_natCast]]
   exact (htwo _ _).symm
  rw [← hp0] at ga0 gb0 hnx
  rw [← hp1] at ga1 gb1 hnx
  simp only [Nat.add_assoc] at ga0 ga1 gb0 gb1 hnx
  have r5 : ((1 + p0 : Nat) : Int) + (aa : Int) = ((1 + (p0 + aa) : Nat) : Int) := by omega
  have r6 : ((1 + p0 : Nat) : Int) + (bb : Int) = ((1 + (p0 + bb) : Nat) : Int) := by omega
  have r7 : ((1 + p1 : Nat) : Int) + (aa : Int) = ((1 + (p1 + aa) : Nat) : Int) := by omega
  have r8 : ((1 + p1 : Nat) : Int) + (bb : Int) = ((1 + (p1 + bb) : Nat) : Int) := by omega
  have b5 : -9223372036854775808 ≤ ((1 + (p0 + aa) : Nat) : Int) ∧ ((1 + (p0 + aa) : Nat) : Int) < 9223372036854775808 := by omega
  have b6 : -9223372036854775808 ≤ ((1 + (p0 + bb) : Nat) : Int) ∧ ((1 + (p0 + bb) : Nat) : Int) < 9223372036854775808 := by omega
  have b7 : -9223372036854775808 ≤ ((1 + (p1 + aa) : Nat) : Int) ∧ ((1 + (p1 + aa) : Nat) : Int) < 9223372036854775808 := by omega
  have b8 : -9223372036854775808 ≤ ((1 + (p1 + bb) : Nat) : Int) ∧ ((1 + (p1 + bb) : Nat) : Int) < 9223372036854775808 := by omega
  have gaA : 1 + (p0 + aa) < i := by omega
  have gbA : 1 + (p0 + bb) < i := by omega
  have gaB : 1 + (p1 + aa) < i := by omega
  have gbB : 1 + (p1 + bb) < i := by omega
  generalize hA1 : 1 + (p0 + aa) = aA at *
  generalize hA2 : 1 + (p0 + bb) = bA at *
  generalize hA3 : 1 + (p1 + aa) = aB at *
  generalize hA4 : 1 + (p1 + bb) = bB at *
  have hb9 := hb aA bB
  have c9 : -9223372036854775808 ≤ at2 R aA bB + d.flow ∧ at2 R aA bB + d.flow < 9223372036854775808 := by omega
  have f09 := FB_row (H0 := H0) hs L gaA
  have fs9 := FB_set (H0 := H0) hs L gaA bB (at2 R aA bB + d.flow)
  have hra9 := FB_rowat (H0 := H0) gaA
  have f19 := FB_0 (H0 := H0) (N := i) (R := R) L
  have fc9 := FB_cell hs gaA gbB
  have fle9 := FB_le hs gaA gbB
  have fsp9 := FB_sp hs gaA gbB (at2 R aA bB + d.flow)
  have hs1 : Sq i (add2 R ⟨aA, bB, d.flow⟩) := hs.upd gaA _ _
  have hbb1 : 0 ≤ at2 (add2 R ⟨aA, bB, d.flow⟩) bA aB ∧ at2 (add2 R ⟨aA, bB, d.flow⟩) bA aB ≤ 1073741824 * 1000 + 1073741824 := by
   unfold add2
   rw [at2_upd hs gaA gbB]
   have := hb bA aB
   simp only
   split <;> omega
  simp only [Nat.add_assoc] at f09 fs9 hra9 f19 fle9 fsp9
  rw [show upd2 R aA bB (at2 R aA bB + d.flow) = add2 R ⟨aA, bB, d.flow⟩ from rfl] at fs9
  (repeat refine Ws ?_)
  (repeat refine Ws ?_)
  refine W_drawP T_ok [] (by kernel_rfl) (by kernel_rfl) ?_
  generalize hi : mkPlan _ = infs
  cbv at hi
  subst hi
  simp (maxSteps := 1000000) only [VL,VM,↓VG,reduceIte,reduceCtorEq,zA,zB,zC,zD,zE,zF,zG,zH,zI,zJ, hR, haa, hbb, r0, r1, r2, r4, r5, r6, r7, r8, b1', b2', b3, b4, b5, b6, b7, b8, k7, c9, eq_true gaA, eq_true gbB, f09, fs9, f19, hra9, fc9, fle9, fsp9]
  have hR1 := hgB _ hs1
  clear f09 fs9 f19 fc9 fle9 fsp9 c9 hb9 hra9
  generalize add2 R ⟨aA, bB, d.flow⟩ = R1 at hs1 hbb1 hnx hR1 ⊢
  have c9 : -9223372036854775808 ≤ at2 R1 bA aB + d.flow ∧ at2 R1 bA aB + d.flow < 9223372036854775808 := by omega
  have f09 := FB_row (H0 := H0) hs1 L gbA
  have fs9 := FB_set (H0 := H0) hs1 L gbA aB (at2 R1 bA aB + d.flow)
  have hra9 := FB_rowat (H0 := H0) gbA
  have f19 := FB_0 (H0 := H0) (N := i) (R := R1) L
  have fc9 := FB_cell hs1 gbA gaB
  have fle9 := FB_le hs1 gbA gaB
  have fsp9 := FB_sp hs1 gbA gaB (at2 R1 bA aB + d.flow)
  simp only [Nat.add_assoc] at f09 fs9 hra9 f19 fle9 fsp9
  rw [show upd2 R1 bA aB (at2 R1 bA aB + d.flow) = add2 R1 ⟨bA, aB, d.flow⟩ from rfl, hnx] at fs9
  (repeat refine Ws ?_)
  refine W_drawP T_ok [] (by kernel_rfl) (by kernel_rfl) ?_
  generalize hi : mkPlan _ = infs
  cbv at hi
  subst hi
  simp (maxSteps := 1000000) only [VL,VM,↓VG,reduceIte,reduceCtorEq,zA,zB,zC,zD,zE,zF,zG,zH,zI,zJ, hR1, haa, hbb, r0, r1, r2, r4, r5, r6, r7, r8, b1', b2', b3, b4, b5, b6, b7, b8, k7, c9, eq_true gbA, eq_true gaB, f09, fs9, f19, hra9, fc9, fle9, fsp9]
  ((repeat refine Ws ?_);refine Wr ?_)
  simp (maxSteps := 1000000) only [VL,VM,↓VG,reduceIte,reduceCtorEq,zA,zB,zC,zD,zE,zF,zG,zH,zI,zJ, k7]
  refine LoopK.mk (t + 1) (by omega) ⟨by omega, fun q => by first | exact (False.elim q) | (rw [hc] at q; cases q)⟩ ⟨rfl, rfl, rfl, rfl, rfl, rfl, rfl, rfl, rfl, trivial⟩ rfl
 have k6 : ((k : Int) < (h.doors.length : Int)) = False := eq_false (by omega)
 obtain rfl : k = h.doors.length := by omega
 simp (maxSteps := 1000000) only [VL,VM,↓VG,reduceIte,reduceCtorEq,zA,zB,zC,zD,zE,zF,zG,zH,zI,zJ, hbox, k6]
 ((repeat refine Ws ?_);refine Wf (by first|rfl|simp only [EV,zF,reduceIte]) ?_)
 ((repeat refine Ws ?_);refine W_exit ?_)
 simp (maxSteps := 1000000) only [VL,VM,↓VG,reduceIte,reduceCtorEq,zA,zB,zC,zD,zE,zF,zG,zH,zI,zJ]
 have hFl := FB_len (H0 := H0) hs0
 ((repeat refine Ws ?_);refine Wr ?_)
 simp (maxSteps := 1000000) only [VL,VM,↓VG,reduceIte,reduceCtorEq,zA,zB,zC,zD,zE,zF,zG,zH,zI,zJ]
 generalize hTT : tabOfW i (outR i nH h.doors ticks closed (comeOf people) h.doors.length) = R at hs0 hb1 hout hFl ⊢
 have hRM : RM (FB H0 i R ++ junk) i H0.length (H0.length + 1) := ⟨FB_0 junk, by rw [List.length_append, hFl]; omega, .inl (by omega)⟩
 have hfl := flow_r hRM hN2 (by omega) lg R hs0 (fun a b _ _ => (hb1 a b).1) (fun a b _ _ => by have := (hb1 a b).2; omega)
 rw [FB_rows hs0 R hs0.len] at hfl
 refine fn_call (f := 93) (fn := Try.f93) (by kernel_rfl) (by rfl) ?_
 refine hfl.mono ?_
 rintro _ _ ⟨R', rfl, rfl, hl'⟩
 rw [FB_rows hs0 R' hl', hout]
 simp (maxSteps := 1000000) only [VL,VM,↓VG,reduceIte,reduceCtorEq,zA,zB,zC,zD,zE,zF,zG,zH,zI,zJ]
 (repeat refine Ws ?_)
 refine W_ret ?_
 try simp only [thenQ, blockQ]
 subst hlg
 exact ⟨.inr rfl, rfl, ⟨X, rfl, hX⟩, M.H, VObj.obj (houseC h) :: VObj.obj ((List.range i).map fun j => .bf (H0.length + 1 + j) 0 i 1) :: (R'.map rowO ++ junk), by rw [FB, hH0]; simp, rfl, [vi (leaveV nH h.doors ticks closed (comeOf people))], rfl, _, rfl, by simp [vtup, frz, refs], rfl, rfl⟩
end Go.Proofs.Ytmagiabapakhcaa.Vm

/- The reference: in how many ticks people can leave, on values. (Vm) -/
namespace Go.Proofs.Ytmagiabapakhcaa.Vm
open Go Go.Proofs
end Go.Proofs.Ytmagiabapakhcaa.Vm
