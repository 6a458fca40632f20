/- A part of the proofs about the chapter of the doors; it states no condition of its own. -/
import Derived.Test.YtekhddlngbppkaaDoorB25
set_option linter.unusedVariables false
set_option linter.unusedSimpArgs false
open Int renaming reduceLE → zA, reduceLT → zB, reduceToNat → zC, reduceNeg → zD
open Nat renaming reduceLT → zE, reduceEqDiff → zF, reduceAdd → zG, reduceSub → zH, reduceMul → zI, reduceLeDiff → zJ
/- Feed, on values. (Vm) -/
-- TABLE TE
namespace Go.Proofs.YtekhddlngbppkaaDoor.Vm
open Go Go.Proofs
structure FdSt where
 i : Nat
 tl : Nat
 rl : Nat → Nat
 L : List VObj
 X : List (Nat × Nat)
theorem svOf_zero (n0 tl : Nat) : svOf n0 0 tl = .sf 0 [] := rfl
theorem svOf_succ (n0 p tl : Nat) : svOf n0 (p + 1) tl = .bf (n0 + (tl + 2)) 0 (p + 1) 1 := rfl
noncomputable def servR (k : Kn) : VV := if k.meals.length = 0 then .p (.sl 0 []) else tabV (feedTo k k.meals.length).1
noncomputable def feedR (k : Kn) : VV := if kitErr k = 0 then .tup [servR k, vi (givenAll k - fedV k (srv0 k) (-1) 0), vi 0] else .tup [.p (.sl 0 []), vi 0, vi (kitErr k)]
theorem svOf_cell (n0 i tl : Nat) : isCell (strip1 (svOf n0 i tl)) = true := by unfold svOf; split <;> rfl
theorem svOf_cells (n0 i tl : Nat) : cellsOf (strip1 (svOf n0 i tl)) = [strip1 (svOf n0 i tl)] := by unfold svOf; split <;> rfl
theorem SBox.strip {k : Kn} {S : List (List Int)} {n0 tl tid : Nat} {rid : Nat → Nat} {H : List VObj} (h : SBox k S (svOf n0 k.meals.length tl) tid rid H) : SBox k S (strip1 (svOf n0 k.meals.length tl)) tid rid H := ⟨fun q => by rw [h.sv q]; rfl, h.tab, h.row⟩
theorem given_bd {k : Kn} (V : KV k) (n : Nat) : 0 ≤ ((k.gifts.take n).map Gi.portions).sum ∧ ((k.gifts.take n).map Gi.portions).sum ≤ 10000 * (k.gifts.take n).length := by
 have := sum_bd ((k.gifts.take n).map Gi.portions) fun p hp => by
  obtain ⟨x, hx, rfl⟩ := List.mem_map.1 hp
  have := V.gifts x (List.mem_of_mem_take hx)
  exact ⟨this.p0, this.p1⟩
 simpa using this
structure SeSt where
 lo : Int
 hi : Int
 L : List VObj
 S : List (List Int)
structure ReSt where
 i : Nat
 L : List VObj
theorem srv0_row (k : Kn) {m : Nat} (hm : m < k.meals.length) : ((srv0 k).getD m []).map vi = List.replicate k.gifts.length (vi 0) := by
 unfold srv0
 rw [List.getD_eq_getElem?_getD, List.getElem?_replicate, if_pos hm, Option.getD_some, List.map_replicate]
set_option maxHeartbeats 1000000 in
set_option maxRecDepth 8000 in
theorem Feed_v (k : Kn) (M : Mem) (hl : k.meals.length ≤ 1000000) (hlg : k.gifts.length ≤ 1000000) : VC Tryd.prog 14 [kitV k] M (fun r M' => M' = M ∧ r = feedR k) := by
 refine VC_own' TE_ok (f := 14) (fn := Tryd.f14) (by kernel_rfl) rfl Tryd.ntmps14 (by rfl) (by rfl) ?_
 ((repeat refine Ws ?_);refine W_region0 TE_ok ?_)
 simp (maxSteps := 1000000) only [xE_ty, xE_fn, xE_bin, xE_oi, xE_oc, xE_ok, VL,VM,↓VG,reduceIte,reduceCtorEq,zA,zB,zC,zD,zE,zF,zG,zH,zI,zJ]
 ((repeat refine Ws ?_);refine W_region0 TE_ok ?_)
 simp (maxSteps := 1000000) only [xE_ty, xE_fn, xE_bin, xE_oi, xE_oc, xE_ok, VL,VM,↓VG,reduceIte,reduceCtorEq,zA,zB,zC,zD,zE,zF,zG,zH,zI,zJ]
 apply call_eq (f := 35) (fn := Tryd.f35) (by kernel_rfl) (by rfl)
 ·exact kit_v k _ hl hlg
 simp (maxSteps := 1000000) only [xE_ty, xE_fn, xE_bin, xE_oi, xE_oc, xE_ok, VL,VM,↓VG,reduceIte,reduceCtorEq,zA,zB,zC,zD,zE,zF,zG,zH,zI,zJ]
 ((repeat refine Ws ?_);refine W_region0 TE_ok ?_)
 by_cases a1 : kitErr k = 0
 rotate_left
 ·simp (maxSteps := 1000000) only [xE_ty, xE_fn, xE_bin, xE_oi, xE_oc, xE_ok, VL,VM,↓VG,reduceIte,reduceCtorEq,zA,zB,zC,zD,zE,zF,zG,zH,zI,zJ, a1]
  ((repeat refine Ws ?_);refine Wt (by first|rfl|simp only [EV,zF,reduceIte]) ?_)
  ((repeat refine Ws ?_);refine W_region0 TE_ok ?_)
  simp (maxSteps := 1000000) only [xE_ty, xE_fn, xE_bin, xE_oi, xE_oc, xE_ok, VL,VM,↓VG,reduceIte,reduceCtorEq,zA,zB,zC,zD,zE,zF,zG,zH,zI,zJ]
  (repeat refine Ws ?_)
  refine W_ret ?_
  try simp only [thenQ, blockQ]
  refine own_ret (L := [.obj [intsV k.meals, gisV k.gifts], .obj [.sf 0 []]]) (vs := [.sf 0 [], vi 0, vi (kitErr k)]) (r := .tup [.p (.sl 0 []), vi 0, vi (kitErr k)]) (by simp [Tryd.f14, vresL, vload, xE_ty, t_table, get_cons, hget, hget0, nat_ble, strip1]) (by simp [vtup, frz, frzL]) (by simp [refs, refsL]) ⟨rfl, ?_⟩
  unfold feedR
  rw [if_neg a1]
 have V := kitErr_ok.1 a1
 have vm1 := V.m1
 have vg1 := V.g1
 simp (maxSteps := 1000000) only [xE_ty, xE_fn, xE_bin, xE_oi, xE_oc, xE_ok, VL,VM,↓VG,reduceIte,reduceCtorEq,zA,zB,zC,zD,zE,zF,zG,zH,zI,zJ, a1]
 ((repeat refine Ws ?_);refine Wf (by first|rfl|simp only [EV,zF,reduceIte]) ?_)
 ((repeat refine Ws ?_);refine W_skip ?_)
 simp (maxSteps := 1000000) only [xE_ty, xE_fn, xE_bin, xE_oi, xE_oc, xE_ok, VL,VM,↓VG,reduceIte,reduceCtorEq,zA,zB,zC,zD,zE,zF,zG,zH,zI,zJ]
 ((repeat refine Ws ?_);refine W_region0 TE_ok ?_)
 simp (maxSteps := 1000000) only [xE_ty, xE_fn, xE_bin, xE_oi, xE_oc, xE_ok, VL,VM,↓VG,reduceIte,reduceCtorEq,zA,zB,zC,zD,zE,zF,zG,zH,zI,zJ]
 have q1 : (k.gifts.length * 8 ≤ 140737488355328) = True := eq_true (by omega)
 have q2 : (k.gifts.length ≤ 9223372036854775807) = True := eq_true (by omega)
 ((repeat refine Ws ?_);refine W_block ?_; (repeat refine Ws ?_)); refine W_loopS (fun s : FdSt => [(0, kitV k), (1, .ptr M.H.length 0), (2, .ptr (M.H.length + 1) 0), (3, vi 0), (22, intsV k.meals), (23, vi k.meals.length), (24, vi s.i)]) (fun s => ⟨M.H ++ (.obj (kitC k) :: .obj [svOf M.H.length s.i s.tl] :: s.L), M.lg ++ s.X⟩) (fun s => k.meals.length - s.i) (fun s => s.i ≤ k.meals.length ∧ FS M.H.length k.gifts.length s.i s.tl s.rl s.L (srv0 k) ∧ ∀ e ∈ s.X, M.H.length ≤ e.1) ⟨0, 0, fun _ => 0, [], []⟩ ⟨Nat.zero_le _, ⟨fun q => absurd rfl q, fun m hm => absurd hm (Nat.not_lt_zero _), fun m hm => absurd hm (Nat.not_lt_zero _), fun a _ ha => absurd ha (Nat.not_lt_zero _)⟩, by simp⟩ ⟨rfl, rfl, rfl, rfl, rfl, rfl, rfl, trivial⟩ (by simp [svOf]) ?_
 rintro ⟨i, tl, rl, L, X⟩ ⟨hi, hF, hX⟩
 simp only at hi hF hX
 have k1 : -9223372036854775808 ≤ (i : Int) + 1 ∧ (i : Int) + 1 < 9223372036854775808 := by omega
 ((repeat refine Ws ?_);refine W_region0 TE_ok ?_)
 rcases Nat.lt_or_ge i k.meals.length with hlt | hge
 ·have k2 : ((i : Int) < (k.meals.length : Int)) = True := eq_true (by omega)
  simp (maxSteps := 1000000) only [xE_ty, xE_fn, xE_bin, xE_oi, xE_oc, xE_ok, VL,VM,↓VG,reduceIte,reduceCtorEq,zA,zB,zC,zD,zE,zF,zG,zH,zI,zJ, k2]
  ((repeat refine Ws ?_);refine Wt (by first|rfl|simp only [EV,zF,reduceIte]) ?_)
  ((repeat refine Ws ?_);refine W_skip ?_)
  simp (maxSteps := 1000000) only [xE_ty, xE_fn, xE_bin, xE_oi, xE_oc, xE_ok, VL,VM,↓VG,reduceIte,reduceCtorEq,zA,zB,zC,zD,zE,zF,zG,zH,zI,zJ]
  ((repeat refine Ws ?_);refine W_block ?_)
  rcases i with _ | p
  ·have z := q1
   (repeat refine Ws ?_)
   refine W_drawP TE_ok [] (by kernel_rfl) (by kernel_rfl) ?_
   generalize hi : mkPlan _ = infs
   cbv at hi
   subst hi
   simp (maxSteps := 1000000) only [xE_ty, xE_fn, xE_bin, xE_oi, xE_oc, xE_ok, VL,VM,↓VG,reduceIte,reduceCtorEq,zA,zB,zC,zD,zE,zF,zG,zH,zI,zJ, q1, q2, svOf_zero, vgrow, rep_flat, List.flatten_cons, List.flatten_nil]
   obtain ⟨Y, y1, y2⟩ := addLg_Y (M.H.length + 1) [M.H.length + (L.length + 3)] (M.lg ++ X)
   ((repeat refine Ws ?_);refine W_region0 TE_ok ?_)
   simp (maxSteps := 1000000) only [xE_ty, xE_fn, xE_bin, xE_oi, xE_oc, xE_ok, VL,VM,↓VG,reduceIte,reduceCtorEq,zA,zB,zC,zD,zE,zF,zG,zH,zI,zJ, k1]
   refine LoopK.mk ⟨0 + 1, L.length + 1, fun _ => L.length, L ++ [.obj (List.replicate k.gifts.length (vi 0)), .obj [.bf (M.H.length + (L.length + 2)) 0 k.gifts.length 1]], X ++ Y⟩ (by simp only; omega) ⟨hlt, FS.first (by rw [srv0_row _ hlt]), ?_⟩ ⟨rfl, rfl, rfl, rfl, rfl, rfl, rfl, trivial⟩ ?_
   ·intro e he
    rcases List.mem_append.1 he with he | he
    ·exact hX e he
    ·have := (y2 e he).1; omega
   ·simp only
    rw [y1, List.append_assoc]
    rfl
  ·have ht := hF.tab (by omega)
   have htl := lt_of_get ht
   have e1 : ∀ Y, (L ++ Y)[tl]? = _ := fun Y => get_app ht
   have e2 : ∀ Y x, (L ++ Y).set tl x = L.set tl x ++ Y := fun Y x => List.set_append_left _ _ htl
   (repeat refine Ws ?_)
   refine W_drawP TE_ok [] (by kernel_rfl) (by kernel_rfl) ?_
   generalize hi : mkPlan _ = infs
   cbv at hi
   subst hi
   have q3 : ((p + 2) * 24 ≤ 140737488355328) = True := eq_true (by omega)
   simp (maxSteps := 1000000) only [xE_ty, xE_fn, xE_bin, xE_oi, xE_oc, xE_ok, VL,VM,↓VG,reduceIte,reduceCtorEq,zA,zB,zC,zD,zE,zF,zG,zH,zI,zJ, q1, q2, q3, svOf_succ, vgrow, rep_flat, e1, e2, ht, List.length_range, List.flatten_cons, List.flatten_nil]
   obtain ⟨Y, y1, y2⟩ := addLg_Y (M.H.length + 1) [M.H.length + (L.length + 3)] (M.lg ++ X)
   ((repeat refine Ws ?_);refine W_region0 TE_ok ?_)
   simp (maxSteps := 1000000) only [xE_ty, xE_fn, xE_bin, xE_oi, xE_oc, xE_ok, VL,VM,↓VG,reduceIte,reduceCtorEq,zA,zB,zC,zD,zE,zF,zG,zH,zI,zJ, k1]
   refine LoopK.mk ⟨p + 1 + 1, L.length + 1, fun a => if a = p + 1 then L.length else rl a, L.set tl .gone ++ [.obj (List.replicate k.gifts.length (vi 0)), .obj ((List.range (p + 1)).map (fun a => .bf (M.H.length + (rl a + 2)) 0 k.gifts.length 1) ++ [.bf (M.H.length + (L.length + 2)) 0 k.gifts.length 1])], X ++ Y⟩ (by simp only; omega) ⟨hlt, hF.grow (by rw [srv0_row _ hlt]), ?_⟩ ⟨rfl, rfl, rfl, rfl, rfl, rfl, rfl, trivial⟩ ?_
   ·intro e he
    rcases List.mem_append.1 he with he | he
    ·exact hX e he
    ·have := (y2 e he).1; omega
   ·simp only
    rw [y1, List.append_assoc]
    rfl
 have k2 : ((i : Int) < (k.meals.length : Int)) = False := eq_false (by omega)
 have hi3 : i = k.meals.length := by omega
 subst hi3
 simp (maxSteps := 1000000) only [xE_ty, xE_fn, xE_bin, xE_oi, xE_oc, xE_ok, VL,VM,↓VG,reduceIte,reduceCtorEq,zA,zB,zC,zD,zE,zF,zG,zH,zI,zJ, k2]
 ((repeat refine Ws ?_);refine Wf (by first|rfl|simp only [EV,zF,reduceIte]) ?_)
 ((repeat refine Ws ?_);refine W_exit ?_)
 simp (maxSteps := 1000000) only [xE_ty, xE_fn, xE_bin, xE_oi, xE_oc, xE_ok, VL,VM,↓VG,reduceIte,reduceCtorEq,zA,zB,zC,zD,zE,zF,zG,zH,zI,zJ]
 ((repeat refine Ws ?_);refine W_region0 TE_ok ?_)
 simp (maxSteps := 1000000) only [xE_ty, xE_fn, xE_bin, xE_oi, xE_oc, xE_ok, VL,VM,↓VG,reduceIte,reduceCtorEq,zA,zB,zC,zD,zE,zF,zG,zH,zI,zJ]
 clear hge k1 k2 q1 q2 hi
 ((repeat refine Ws ?_);refine W_block ?_; (repeat refine Ws ?_)); refine W_loopS (fun s : ReSt => [(0, kitV k), (1, .ptr M.H.length 0), (2, .ptr (M.H.length + 1) 0), (3, vi ((k.gifts.take s.i).map Gi.portions).sum), (35, gisV k.gifts), (36, vi k.gifts.length), (37, vi s.i)]) (fun s => ⟨M.H ++ (.obj (kitC k) :: .obj [svOf M.H.length k.meals.length tl] :: s.L), M.lg ++ X⟩) (fun s => k.gifts.length - s.i) (fun s => s.i ≤ k.gifts.length ∧ FS M.H.length k.gifts.length k.meals.length tl rl s.L (srv0 k)) ⟨0, L⟩ ⟨Nat.zero_le _, hF⟩ ⟨rfl, rfl, rfl, rfl, rfl, rfl, rfl, trivial⟩ rfl ?_
 clear hF
 rintro ⟨i, L⟩ ⟨hi, hF⟩
 simp only at hi hF
 have k1 : -9223372036854775808 ≤ (i : Int) + 1 ∧ (i : Int) + 1 < 9223372036854775808 := by omega
 ((repeat refine Ws ?_);refine W_region0 TE_ok ?_)
 rcases Nat.lt_or_ge i k.gifts.length with hlt | hge
 ·have k2 : ((i : Int) < (k.gifts.length : Int)) = True := eq_true (by omega)
  have hx : k.gifts[i]? = some k.gifts[i] := List.getElem?_eq_getElem hlt
  have hmem := V.gifts _ (List.getElem_mem hlt)
  generalize k.gifts[i] = x at hx hmem
  have hx' := map_at (f := giP) hx
  have hb := given_bd V i
  rw [List.length_take] at hb
  have hp0 := hmem.p0
  have hp1 := hmem.p1
  have hsum : ((k.gifts.take (i + 1)).map Gi.portions).sum = ((k.gifts.take i).map Gi.portions).sum + x.portions := by rw [List.take_add_one, hx]; simp
  have k3 : -9223372036854775808 ≤ ((k.gifts.take i).map Gi.portions).sum + x.portions ∧ ((k.gifts.take i).map Gi.portions).sum + x.portions < 9223372036854775808 := by omega
  generalize ((k.gifts.take i).map Gi.portions).sum = sm at hsum k3
  simp (maxSteps := 1000000) only [xE_ty, xE_fn, xE_bin, xE_oi, xE_oc, xE_ok, VL,VM,↓VG,reduceIte,reduceCtorEq,zA,zB,zC,zD,zE,zF,zG,zH,zI,zJ, k2]
  ((repeat refine Ws ?_);refine Wt (by first|rfl|simp only [EV,zF,reduceIte]) ?_)
  ((repeat refine Ws ?_);refine W_skip ?_)
  simp (maxSteps := 1000000) only [xE_ty, xE_fn, xE_bin, xE_oi, xE_oc, xE_ok, VL,VM,↓VG,reduceIte,reduceCtorEq,zA,zB,zC,zD,zE,zF,zG,zH,zI,zJ]
  ((repeat refine Ws ?_);refine W_block ?_)
  ((repeat refine Ws ?_);refine W_region0 TE_ok ?_)
  simp (maxSteps := 1000000) only [xE_ty, xE_fn, xE_bin, xE_oi, xE_oc, xE_ok, VL,VM,↓VG,reduceIte,reduceCtorEq,zA,zB,zC,zD,zE,zF,zG,zH,zI,zJ, hx']
  ((repeat refine Ws ?_);refine W_region0 TE_ok ?_)
  simp (maxSteps := 1000000) only [xE_ty, xE_fn, xE_bin, xE_oi, xE_oc, xE_ok, VL,VM,↓VG,reduceIte,reduceCtorEq,zA,zB,zC,zD,zE,zF,zG,zH,zI,zJ, k3]
  ((repeat refine Ws ?_);refine W_region0 TE_ok ?_)
  simp (maxSteps := 1000000) only [xE_ty, xE_fn, xE_bin, xE_oi, xE_oc, xE_ok, VL,VM,↓VG,reduceIte,reduceCtorEq,zA,zB,zC,zD,zE,zF,zG,zH,zI,zJ, k1]
  refine LoopK.mk ⟨i + 1, L ++ [.obj [vi x.from_, vi x.keeps, vi x.portions]]⟩ (by simp only; omega) ⟨hlt, hF.app _⟩ ⟨rfl, rfl, rfl, ?_, rfl, rfl, rfl, trivial⟩ rfl
  simp only
  rw [hsum]; rfl
 have k2 : ((i : Int) < (k.gifts.length : Int)) = False := eq_false (by omega)
 have hi3 : i = k.gifts.length := by omega
 subst hi3
 have hall : ((k.gifts.take k.gifts.length).map Gi.portions).sum = givenAll k := by rw [List.take_length]; rfl
 have hgb := given_bd V k.gifts.length
 rw [hall, List.length_take] at hgb
 simp (maxSteps := 1000000) only [xE_ty, xE_fn, xE_bin, xE_oi, xE_oc, xE_ok, VL,VM,↓VG,reduceIte,reduceCtorEq,zA,zB,zC,zD,zE,zF,zG,zH,zI,zJ, k2, hall]
 ((repeat refine Ws ?_);refine Wf (by first|rfl|simp only [EV,zF,reduceIte]) ?_)
 ((repeat refine Ws ?_);refine W_exit ?_)
 simp (maxSteps := 1000000) only [xE_ty, xE_fn, xE_bin, xE_oi, xE_oc, xE_ok, VL,VM,↓VG,reduceIte,reduceCtorEq,zA,zB,zC,zD,zE,zF,zG,zH,zI,zJ]
 clear hge k1 k2 hi
 ((repeat refine Ws ?_);refine W_region0 TE_ok ?_)
 simp (maxSteps := 1000000) only [xE_ty, xE_fn, xE_bin, xE_oi, xE_oc, xE_ok, VL,VM,↓VG,reduceIte,reduceCtorEq,zA,zB,zC,zD,zE,zF,zG,zH,zI,zJ]
 ((repeat refine Ws ?_);refine W_region0 TE_ok ?_)
 simp (maxSteps := 1000000) only [xE_ty, xE_fn, xE_bin, xE_oi, xE_oc, xE_ok, VL,VM,↓VG,reduceIte,reduceCtorEq,zA,zB,zC,zD,zE,zF,zG,zH,zI,zJ]
 have hfb := fedV_bd V (srv0_ok k) (srv0_fits V) (-1) 0
 refine callf_u (f := 36) (fn := Tryd.f36) (caps := [.ptr M.H.length 0, .ptr (M.H.length + 1) 0]) (by kernel_rfl) (by rfl) (by exact fed_v k V (srv0_ok k) (srv0_fits V) (-1) 0 (svOf_cell _ _ _) (svOf_cells _ _ _) _ (by simp only [hget0]; rfl) (by simp only [hget]; rfl) (hF.sbox _ _).strip) ?_
 have k3 : -9223372036854775808 ≤ givenAll k - fedV k (srv0 k) (-1) 0 ∧ givenAll k - fedV k (srv0 k) (-1) 0 < 9223372036854775808 := by omega
 simp (maxSteps := 1000000) only [xE_ty, xE_fn, xE_bin, xE_oi, xE_oc, xE_ok, VL,VM,↓VG,reduceIte,reduceCtorEq,zA,zB,zC,zD,zE,zF,zG,zH,zI,zJ]
 ((repeat refine Ws ?_);refine W_region0 TE_ok ?_)
 simp (maxSteps := 1000000) only [xE_ty, xE_fn, xE_bin, xE_oi, xE_oc, xE_ok, VL,VM,↓VG,reduceIte,reduceCtorEq,zA,zB,zC,zD,zE,zF,zG,zH,zI,zJ, k3]
 ((repeat refine Ws ?_);refine W_region0 TE_ok ?_)
 simp (maxSteps := 1000000) only [xE_ty, xE_fn, xE_bin, xE_oi, xE_oc, xE_ok, VL,VM,↓VG,reduceIte,reduceCtorEq,zA,zB,zC,zD,zE,zF,zG,zH,zI,zJ]
 ((repeat refine Ws ?_);refine W_block ?_; (repeat refine Ws ?_)); refine W_loopS (fun s : ReSt => [(0, kitV k), (1, .ptr M.H.length 0), (2, .ptr (M.H.length + 1) 0), (3, vi (givenAll k - fedV k (srv0 k) (-1) 0)), (8, .fn (.func 36) [] [.ptr M.H.length 0, .ptr (M.H.length + 1) 0]), (9, vi (feedTo k s.i).2), (53, intsV k.meals), (54, vi k.meals.length), (55, vi s.i)]) (fun s => ⟨M.H ++ (.obj (kitC k) :: .obj [svOf M.H.length k.meals.length tl] :: s.L), M.lg ++ X⟩) (fun s => k.meals.length - s.i) (fun s => s.i ≤ k.meals.length ∧ FS M.H.length k.gifts.length k.meals.length tl rl s.L (feedTo k s.i).1) ⟨0, L⟩ ⟨Nat.zero_le _, hF⟩ ⟨rfl, rfl, rfl, rfl, rfl, rfl, rfl, rfl, rfl, trivial⟩ rfl ?_
 clear hF hfb
 rintro ⟨m, L⟩ ⟨hi, hF⟩
 simp only at hi hF
 have k1 : -9223372036854775808 ≤ (m : Int) + 1 ∧ (m : Int) + 1 < 9223372036854775808 := by omega
 ((repeat refine Ws ?_);refine W_region0 TE_ok ?_)
 rcases Nat.lt_or_ge m k.meals.length with hlt | hge
 ·have k2 : ((m : Int) < (k.meals.length : Int)) = True := eq_true (by omega)
  simp (maxSteps := 1000000) only [xE_ty, xE_fn, xE_bin, xE_oi, xE_oc, xE_ok, VL,VM,↓VG,reduceIte,reduceCtorEq,zA,zB,zC,zD,zE,zF,zG,zH,zI,zJ, k2]
  ((repeat refine Ws ?_);refine Wt (by first|rfl|simp only [EV,zF,reduceIte]) ?_)
  ((repeat refine Ws ?_);refine W_skip ?_)
  simp (maxSteps := 1000000) only [xE_ty, xE_fn, xE_bin, xE_oi, xE_oc, xE_ok, VL,VM,↓VG,reduceIte,reduceCtorEq,zA,zB,zC,zD,zE,zF,zG,zH,zI,zJ]
  ((repeat refine Ws ?_);refine W_block ?_)
  ((repeat refine Ws ?_);refine W_region0 TE_ok ?_)
  simp (maxSteps := 1000000) only [xE_ty, xE_fn, xE_bin, xE_oi, xE_oc, xE_ok, VL,VM,↓VG,reduceIte,reduceCtorEq,zA,zB,zC,zD,zE,zF,zG,zH,zI,zJ]
  ((repeat refine Ws ?_);refine W_region0 TE_ok ?_)
  simp (maxSteps := 1000000) only [xE_ty, xE_fn, xE_bin, xE_oi, xE_oc, xE_ok, VL,VM,↓VG,reduceIte,reduceCtorEq,zA,zB,zC,zD,zE,zF,zG,zH,zI,zJ]
  ((repeat refine Ws ?_);refine W_block ?_; (repeat refine Ws ?_)); refine W_loopS (fun s : ReSt => [(0, kitV k), (1, .ptr M.H.length 0), (2, .ptr (M.H.length + 1) 0), (3, vi (givenAll k - fedV k (srv0 k) (-1) 0)), (8, .fn (.func 36) [] [.ptr M.H.length 0, .ptr (M.H.length + 1) 0]), (9, vi (feedIn k m s.i).2), (53, intsV k.meals), (54, vi k.meals.length), (55, vi m), (10, vi m), (59, gisV k.gifts), (60, vi k.gifts.length), (61, vi s.i)]) (fun s => ⟨M.H ++ (.obj (kitC k) :: .obj [svOf M.H.length k.meals.length tl] :: s.L), M.lg ++ X⟩) (fun s => k.gifts.length - s.i) (fun s => s.i ≤ k.gifts.length ∧ FS M.H.length k.gifts.length k.meals.length tl rl s.L (feedIn k m s.i).1) ⟨0, L⟩ ⟨Nat.zero_le _, hF⟩ ⟨rfl, rfl, rfl, rfl, rfl, rfl, rfl, rfl, rfl, rfl, rfl, rfl, rfl, trivial⟩ rfl ?_
  clear hF k2 hi
  rintro ⟨g, L⟩ ⟨hi, hF⟩
  simp only at hi hF
  have j1 : -9223372036854775808 ≤ (g : Int) + 1 ∧ (g : Int) + 1 < 9223372036854775808 := by omega
  ((repeat refine Ws ?_);refine W_region0 TE_ok ?_)
  rcases Nat.lt_or_ge g k.gifts.length with hlt2 | hge2
  ·have j2 : ((g : Int) < (k.gifts.length : Int)) = True := eq_true (by omega)
   have hx := giAt_some hlt2
   have hgv := giAt_V V hlt2
   have hx' := map_at (f := giP) hx
   have hst := feedIn_succ k m g
   have hok := FeedOk.inn V hlt g (by omega) (FeedOk.to V m (by omega))
   unfold feedStep at hst
   simp (maxSteps := 1000000) only [xE_ty, xE_fn, xE_bin, xE_oi, xE_oc, xE_ok, VL,VM,↓VG,reduceIte,reduceCtorEq,zA,zB,zC,zD,zE,zF,zG,zH,zI,zJ, j2]
   ((repeat refine Ws ?_);refine Wt (by first|rfl|simp only [EV,zF,reduceIte]) ?_)
   ((repeat refine Ws ?_);refine W_skip ?_)
   simp (maxSteps := 1000000) only [xE_ty, xE_fn, xE_bin, xE_oi, xE_oc, xE_ok, VL,VM,↓VG,reduceIte,reduceCtorEq,zA,zB,zC,zD,zE,zF,zG,zH,zI,zJ]
   ((repeat refine Ws ?_);refine W_block ?_)
   ((repeat refine Ws ?_);refine W_region0 TE_ok ?_)
   simp (maxSteps := 1000000) only [xE_ty, xE_fn, xE_bin, xE_oi, xE_oc, xE_ok, VL,VM,↓VG,reduceIte,reduceCtorEq,zA,zB,zC,zD,zE,zF,zG,zH,zI,zJ, hx']
   ((repeat refine Ws ?_);refine W_region0 TE_ok ?_)
   simp (maxSteps := 1000000) only [xE_ty, xE_fn, xE_bin, xE_oi, xE_oc, xE_ok, VL,VM,↓VG,reduceIte,reduceCtorEq,zA,zB,zC,zD,zE,zF,zG,zH,zI,zJ]
   apply call_eq (f := 21) (fn := Tryd.f21) (by kernel_rfl) (by rfl)
   ·exact in_v _ _ _ _
   cases b1 : inR (m : Int) (giAt k g).from_ (giAt k g).keeps
   ·rw [b1, if_neg (by decide)] at hst
    simp (maxSteps := 1000000) only [xE_ty, xE_fn, xE_bin, xE_oi, xE_oc, xE_ok, VL,VM,↓VG,reduceIte,reduceCtorEq,zA,zB,zC,zD,zE,zF,zG,zH,zI,zJ]
    ((repeat refine Ws ?_);refine Wt (by first|rfl|simp only [EV,zF,reduceIte]) ?_)
    ((repeat refine Ws ?_);refine W_exit ?_)
    simp (maxSteps := 1000000) only [xE_ty, xE_fn, xE_bin, xE_oi, xE_oc, xE_ok, VL,VM,↓VG,reduceIte,reduceCtorEq,zA,zB,zC,zD,zE,zF,zG,zH,zI,zJ]
    ((repeat refine Ws ?_);refine W_region0 TE_ok ?_)
    simp (maxSteps := 1000000) only [xE_ty, xE_fn, xE_bin, xE_oi, xE_oc, xE_ok, VL,VM,↓VG,reduceIte,reduceCtorEq,zA,zB,zC,zD,zE,zF,zG,zH,zI,zJ, j1]
    refine LoopK.mk ⟨g + 1, L ++ [.obj [vi (giAt k g).from_, vi (giAt k g).keeps, vi (giAt k g).portions]]⟩ (by simp only; omega) ⟨hlt2, by simp only; rw [hst]; exact hF.app _⟩ ⟨rfl, rfl, rfl, rfl, rfl, ?_, rfl, rfl, rfl, rfl, rfl, rfl, rfl, trivial⟩ rfl
    simp only
    rw [hst]; rfl
   rw [b1, if_pos rfl] at hst
   have m0 : k.meals.length ≠ 0 := by omega
   have hsv : svOf M.H.length k.meals.length tl = .bf (M.H.length + (tl + 2)) 0 k.meals.length 1 := if_neg m0
   obtain ⟨⟨S, rest⟩, hfi⟩ : ∃ st, st = feedIn k m g := ⟨_, rfl⟩
   rw [← hfi] at hst hok hF ⊢
   rw [hsv]
   obtain ⟨hsrv, hfit, hr0, hr1⟩ := hok
   simp only at hst hsrv hfit hr0 hr1 hF
   have hgi : (L ++ [VObj.obj [vi (giAt k g).from_, vi (giAt k g).keeps, vi (giAt k g).portions]])[L.length]? = some (.obj [vi (giAt k g).from_, vi (giAt k g).keeps, vi (giAt k g).portions]) := by rw [List.getElem?_append_right (Nat.le_refl _), Nat.sub_self]; rfl
   have hp0 := hgv.p0
   have hp1 := hgv.p1
   have hFg := hF.app [VObj.obj [vi (giAt k g).from_, vi (giAt k g).keeps, vi (giAt k g).portions]]
   obtain ⟨L1, hL1⟩ : ∃ L1, L1 = L ++ [VObj.obj [vi (giAt k g).from_, vi (giAt k g).keeps, vi (giAt k g).portions]] := ⟨_, rfl⟩
   rw [← hL1] at hgi hFg
   simp (maxSteps := 1000000) only [xE_ty, xE_fn, xE_bin, xE_oi, xE_oc, xE_ok, VL,VM,↓VG,reduceIte,reduceCtorEq,zA,zB,zC,zD,zE,zF,zG,zH,zI,zJ]
   ((repeat refine Ws ?_);refine Wf (by first|rfl|simp only [EV,zF,reduceIte]) ?_)
   ((repeat refine Ws ?_);refine W_skip ?_)
   simp (maxSteps := 1000000) only [xE_ty, xE_fn, xE_bin, xE_oi, xE_oc, xE_ok, VL,VM,↓VG,reduceIte,reduceCtorEq,zA,zB,zC,zD,zE,zF,zG,zH,zI,zJ]
   rw [← hL1]
   (repeat refine Ws ?_)
   refine W_drawP TE_ok [] (by kernel_rfl) (by kernel_rfl) ?_
   generalize hi : mkPlan _ = infs
   cbv at hi
   subst hi
   simp (maxSteps := 1000000) only [xE_ty, xE_fn, xE_bin, xE_oi, xE_oc, xE_ok, VL,VM,↓VG,reduceIte,reduceCtorEq,zA,zB,zC,zD,zE,zF,zG,zH,zI,zJ, hgi]
   ((repeat refine Ws ?_);refine W_block ?_; (repeat refine Ws ?_)); refine W_loopS (fun s : SeSt => [(0, kitV k), (1, .ptr M.H.length 0), (2, .ptr (M.H.length + 1) 0), (3, vi (givenAll k - fedV k (srv0 k) (-1) 0)), (8, .fn (.func 36) [] [.ptr M.H.length 0, .ptr (M.H.length + 1) 0]), (9, vi rest), (53, intsV k.meals), (54, vi k.meals.length), (55, vi m), (10, vi m), (59, gisV k.gifts), (60, vi k.gifts.length), (61, vi g), (11, vi g), (12, .ptr (M.H.length + (L.length + 2)) 0), (13, vi s.lo), (14, vi s.hi)]) (fun s => ⟨M.H ++ (.obj (kitC k) :: .obj [.bf (M.H.length + (tl + 2)) 0 k.meals.length 1] :: s.L), M.lg ++ X⟩) (fun s => (s.hi - s.lo).toNat) (fun s => 0 ≤ s.lo ∧ s.lo ≤ s.hi ∧ s.hi ≤ 10000 ∧ pairV k S m g rest = srchV (pairP k S m g rest) s.lo s.hi ∧ FS M.H.length k.gifts.length k.meals.length tl rl s.L s.S ∧ Srv k s.S ∧ ∀ t, upd2 s.S m g t = upd2 S m g t) ⟨0, min rest (giAt k g).portions, L1, S⟩ ⟨Int.le_refl _, by simp only; omega, by simp only; omega, rfl, hFg, hsrv, fun _ => rfl⟩ ⟨rfl, rfl, rfl, rfl, rfl, rfl, rfl, rfl, rfl, rfl, rfl, rfl, rfl, rfl, rfl, rfl, rfl, trivial⟩ rfl ?_
   clear hFg hF hgi hL1 hi
   rintro ⟨lo, hi, L2, S2⟩ ⟨h0, h1, h2, h3, hF, hsrv2, hup⟩
   simp only at h0 h1 h2 h3 hF hsrv2 hup
   have ht := hF.tab m0
   have hrw := hF.row m hlt
   have c1 : (List.map (fun a => VV.bf (M.H.length + (rl a + 2)) 0 k.gifts.length 1) (List.range k.meals.length))[m]? = some (.bf (M.H.length + (rl m + 2)) 0 k.gifts.length 1) := by simp [hlt]
   have c3 : (m < k.meals.length) = True := eq_true hlt
   have c4 : (g < k.gifts.length) = True := eq_true hlt2
   have hrl := srv_rowl hsrv2 hlt
   have e1 : (g + 1 ≤ (S2.getD m []).length) = True := eq_true (by omega)
   have sp : ∀ t : Int, List.map vi (List.take g (S2.getD m [])) ++ vi t :: List.map vi (List.drop (g + 1) (S2.getD m [])) = List.map vi ((S2.getD m []).set g t) := fun t => by
    rw [List.set_eq_take_append_cons_drop, if_pos (by omega)]
    simp
   have hwr := fun t : Int => hF.write (m := m) (g := g) hlt (by rw [hsrv2.len]; exact hlt) t
   ((repeat refine Ws ?_);refine W_region0 TE_ok ?_)
   by_cases hlh : lo < hi
   ·have q1 : (lo < hi) = True := eq_true hlh
    have q2 : -9223372036854775808 ≤ lo + hi ∧ lo + hi < 9223372036854775808 := by omega
    have q3 : -9223372036854775808 ≤ lo + hi + 1 ∧ lo + hi + 1 < 9223372036854775808 := by omega
    have q4 : 0 ≤ lo + hi + 1 ∧ lo + hi + 1 < 9223372036854775808 := by omega
    have hy := srchV_yes (p := pairP k S m g rest) hlh
    have hn := srchV_no (p := pairP k S m g rest) hlh
    obtain ⟨t, ht2⟩ : ∃ t, t = (lo + hi + 1) / 2 := ⟨_, rfl⟩
    rw [← ht2] at hy hn
    have t0 : lo < t := by omega
    have t1 : t ≤ hi := by omega
    simp (maxSteps := 1000000) only [xE_ty, xE_fn, xE_bin, xE_oi, xE_oc, xE_ok, VL,VM,↓VG,reduceIte,reduceCtorEq,zA,zB,zC,zD,zE,zF,zG,zH,zI,zJ, q1]
    ((repeat refine Ws ?_);refine Wt (by first|rfl|simp only [EV,zF,reduceIte]) ?_)
    ((repeat refine Ws ?_);refine W_skip ?_)
    simp (maxSteps := 1000000) only [xE_ty, xE_fn, xE_bin, xE_oi, xE_oc, xE_ok, VL,VM,↓VG,reduceIte,reduceCtorEq,zA,zB,zC,zD,zE,zF,zG,zH,zI,zJ]
    ((repeat refine Ws ?_);refine W_block ?_)
    ((repeat refine Ws ?_);refine W_region0 TE_ok ?_)
    simp (maxSteps := 1000000) only [xE_ty, xE_fn, xE_bin, xE_oi, xE_oc, xE_ok, VL,VM,↓VG,reduceIte,reduceCtorEq,zA,zB,zC,zD,zE,zF,zG,zH,zI,zJ, q2, q3, q4]
    rw [← ht2]
    ((repeat refine Ws ?_);refine W_region0 TE_ok ?_)
    simp (maxSteps := 1000000) only [xE_ty, xE_fn, xE_bin, xE_oi, xE_oc, xE_ok, VL,VM,↓VG,reduceIte,reduceCtorEq,zA,zB,zC,zD,zE,zF,zG,zH,zI,zJ, ht, hrw, c1, c3, c4, e1, sp]
    have hF3 := hwr t
    rw [hup t] at hF3
    have hsrv3 := hsrv.upd hlt hlt2 (x := t) (by omega) (by omega)
    obtain ⟨L3, hL3⟩ : ∃ L3, L3 = L2.set (rl m) (.obj (((S2.getD m []).set g t).map vi)) := ⟨_, rfl⟩
    rw [← hL3] at hF3 ⊢
    have hup3 : ∀ x, upd2 (upd2 S m g t) m g x = upd2 S m g x := fun x => upd2_upd2 t x (by rw [hsrv.len]; exact hlt)
    have hB := hF3.sbox (k := k) (M := M) (VObj.obj (kitC k)) (VObj.obj [.bf (M.H.length + (tl + 2)) 0 k.meals.length 1])
    rw [hsv] at hB
    ((repeat refine Ws ?_);refine W_region0 TE_ok ?_)
    simp (maxSteps := 1000000) only [xE_ty, xE_fn, xE_bin, xE_oi, xE_oc, xE_ok, VL,VM,↓VG,reduceIte,reduceCtorEq,zA,zB,zC,zD,zE,zF,zG,zH,zI,zJ]
    apply call_eq (f := 40) (fn := Tryd.f40) (by kernel_rfl) (by rfl)
    ·exact fits_v k V hsrv3 m g hlt hlt2 _ hB
    have pe : pairP k S m g rest t = (fitsB k (upd2 S m g t) m g && decide (fedV k (upd2 S m g t) m ((g : Int) - 1) = rest - t)) := rfl
    have q5 : -9223372036854775808 ≤ t - 1 ∧ t - 1 < 9223372036854775808 := by omega
    have q6 : -9223372036854775808 ≤ rest - t ∧ rest - t < 9223372036854775808 := by omega
    have q7 : -9223372036854775808 ≤ (g : Int) - 1 ∧ (g : Int) - 1 < 9223372036854775808 := by omega
    cases bf : fitsB k (upd2 S m g t) m g
    ·rw [bf, Bool.false_and] at pe
     simp (maxSteps := 1000000) only [xE_ty, xE_fn, xE_bin, xE_oi, xE_oc, xE_ok, VL,VM,↓VG,reduceIte,reduceCtorEq,zA,zB,zC,zD,zE,zF,zG,zH,zI,zJ]
     ((repeat refine Ws ?_);refine Wf (by first|rfl|simp only [EV,zF,reduceIte]) ?_)
     ((repeat refine Ws ?_);refine W_region0 TE_ok ?_)
     simp (maxSteps := 1000000) only [xE_ty, xE_fn, xE_bin, xE_oi, xE_oc, xE_ok, VL,VM,↓VG,reduceIte,reduceCtorEq,zA,zB,zC,zD,zE,zF,zG,zH,zI,zJ, q5]
     refine LoopK.mk ⟨lo, t - 1, L3, upd2 S m g t⟩ (by simp only; omega) ⟨h0, by simp only; omega, by simp only; omega, by simp only; rw [h3, hn pe], hF3, hsrv3, hup3⟩ ⟨rfl, rfl, rfl, rfl, rfl, rfl, rfl, rfl, rfl, rfl, rfl, rfl, rfl, rfl, rfl, rfl, rfl, trivial⟩ rfl
    rw [bf, Bool.true_and] at pe
    simp (maxSteps := 1000000) only [xE_ty, xE_fn, xE_bin, xE_oi, xE_oc, xE_ok, VL,VM,↓VG,reduceIte,reduceCtorEq,zA,zB,zC,zD,zE,zF,zG,zH,zI,zJ, q7]
    refine callf_u (f := 36) (fn := Tryd.f36) (caps := [.ptr M.H.length 0, .ptr (M.H.length + 1) 0]) (by kernel_rfl) (by rfl) (by exact fed_v k V hsrv3 (hfit.upd hsrv hlt hlt2 bf) m ((g : Int) - 1) (sv := .bf (M.H.length + (tl + 2)) 0 k.meals.length 1) rfl rfl _ (by simp only [hget0]; rfl) (by simp only [hget]; rfl) hB) ?_
    by_cases be : fedV k (upd2 S m g t) m ((g : Int) - 1) = rest - t
    ·have q8 : (fedV k (upd2 S m g t) m ((g : Int) - 1) = rest - t) = True := eq_true be
     rw [decide_eq_true be] at pe
     simp (maxSteps := 1000000) only [xE_ty, xE_fn, xE_bin, xE_oi, xE_oc, xE_ok, VL,VM,↓VG,reduceIte,reduceCtorEq,zA,zB,zC,zD,zE,zF,zG,zH,zI,zJ, q6, q8]
     ((repeat refine Ws ?_);refine Wt (by first|rfl|simp only [EV,zF,reduceIte]) ?_)
     ((repeat refine Ws ?_);refine W_region0 TE_ok ?_)
     simp (maxSteps := 1000000) only [xE_ty, xE_fn, xE_bin, xE_oi, xE_oc, xE_ok, VL,VM,↓VG,reduceIte,reduceCtorEq,zA,zB,zC,zD,zE,zF,zG,zH,zI,zJ]
     refine LoopK.mk ⟨t, hi, L3, upd2 S m g t⟩ (by simp only; omega) ⟨by simp only; omega, t1, h2, by simp only; rw [h3, hy pe], hF3, hsrv3, hup3⟩ ⟨rfl, rfl, rfl, rfl, rfl, rfl, rfl, rfl, rfl, rfl, rfl, rfl, rfl, rfl, rfl, rfl, rfl, trivial⟩ rfl
    have q8 : (fedV k (upd2 S m g t) m ((g : Int) - 1) = rest - t) = False := eq_false be
    rw [decide_eq_false be] at pe
    simp (maxSteps := 1000000) only [xE_ty, xE_fn, xE_bin, xE_oi, xE_oc, xE_ok, VL,VM,↓VG,reduceIte,reduceCtorEq,zA,zB,zC,zD,zE,zF,zG,zH,zI,zJ, q6, q8]
    ((repeat refine Ws ?_);refine Wf (by first|rfl|simp only [EV,zF,reduceIte]) ?_)
    ((repeat refine Ws ?_);refine W_region0 TE_ok ?_)
    simp (maxSteps := 1000000) only [xE_ty, xE_fn, xE_bin, xE_oi, xE_oc, xE_ok, VL,VM,↓VG,reduceIte,reduceCtorEq,zA,zB,zC,zD,zE,zF,zG,zH,zI,zJ, q5]
    refine LoopK.mk ⟨lo, t - 1, L3, upd2 S m g t⟩ (by simp only; omega) ⟨h0, by simp only; omega, by simp only; omega, by simp only; rw [h3, hn pe], hF3, hsrv3, hup3⟩ ⟨rfl, rfl, rfl, rfl, rfl, rfl, rfl, rfl, rfl, rfl, rfl, rfl, rfl, rfl, rfl, rfl, rfl, trivial⟩ rfl
   have q1 : (lo < hi) = False := eq_false hlh
   rw [srchV_stop hlh] at h3
   have q6 : -9223372036854775808 ≤ rest - lo ∧ rest - lo < 9223372036854775808 := by omega
   have hF3 := hwr lo
   rw [hup lo] at hF3
   rw [h3] at hst
   simp (maxSteps := 1000000) only [xE_ty, xE_fn, xE_bin, xE_oi, xE_oc, xE_ok, VL,VM,↓VG,reduceIte,reduceCtorEq,zA,zB,zC,zD,zE,zF,zG,zH,zI,zJ, q1]
   ((repeat refine Ws ?_);refine Wf (by first|rfl|simp only [EV,zF,reduceIte]) ?_)
   ((repeat refine Ws ?_);refine W_exit ?_)
   simp (maxSteps := 1000000) only [xE_ty, xE_fn, xE_bin, xE_oi, xE_oc, xE_ok, VL,VM,↓VG,reduceIte,reduceCtorEq,zA,zB,zC,zD,zE,zF,zG,zH,zI,zJ]
   ((repeat refine Ws ?_);refine W_region0 TE_ok ?_)
   simp (maxSteps := 1000000) only [xE_ty, xE_fn, xE_bin, xE_oi, xE_oc, xE_ok, VL,VM,↓VG,reduceIte,reduceCtorEq,zA,zB,zC,zD,zE,zF,zG,zH,zI,zJ, ht, hrw, c1, c3, c4, e1, sp]
   ((repeat refine Ws ?_);refine W_region0 TE_ok ?_)
   simp (maxSteps := 1000000) only [xE_ty, xE_fn, xE_bin, xE_oi, xE_oc, xE_ok, VL,VM,↓VG,reduceIte,reduceCtorEq,zA,zB,zC,zD,zE,zF,zG,zH,zI,zJ, q6]
   ((repeat refine Ws ?_);refine W_region0 TE_ok ?_)
   simp (maxSteps := 1000000) only [xE_ty, xE_fn, xE_bin, xE_oi, xE_oc, xE_ok, VL,VM,↓VG,reduceIte,reduceCtorEq,zA,zB,zC,zD,zE,zF,zG,zH,zI,zJ, j1]
   refine LoopK.mk ⟨g + 1, _⟩ (by simp only; omega) ⟨hlt2, by simp only; rw [hst]; exact hF3⟩ ⟨rfl, rfl, rfl, rfl, rfl, ?_, rfl, rfl, rfl, rfl, rfl, rfl, rfl, trivial⟩ (by simp only [hsv])
   simp only
   rw [hst]; rfl
  have j2 : ((g : Int) < (k.gifts.length : Int)) = False := eq_false (by omega)
  have hi3 : g = k.gifts.length := by omega
  subst hi3
  simp (maxSteps := 1000000) only [xE_ty, xE_fn, xE_bin, xE_oi, xE_oc, xE_ok, VL,VM,↓VG,reduceIte,reduceCtorEq,zA,zB,zC,zD,zE,zF,zG,zH,zI,zJ, j2]
  ((repeat refine Ws ?_);refine Wf (by first|rfl|simp only [EV,zF,reduceIte]) ?_)
  ((repeat refine Ws ?_);refine W_exit ?_)
  simp (maxSteps := 1000000) only [xE_ty, xE_fn, xE_bin, xE_oi, xE_oc, xE_ok, VL,VM,↓VG,reduceIte,reduceCtorEq,zA,zB,zC,zD,zE,zF,zG,zH,zI,zJ]
  ((repeat refine Ws ?_);refine W_region0 TE_ok ?_)
  simp (maxSteps := 1000000) only [xE_ty, xE_fn, xE_bin, xE_oi, xE_oc, xE_ok, VL,VM,↓VG,reduceIte,reduceCtorEq,zA,zB,zC,zD,zE,zF,zG,zH,zI,zJ, k1]
  refine LoopK.mk ⟨m + 1, L⟩ (by simp only; omega) ⟨hlt, by simp only; rw [feedTo_succ]; exact hF⟩ ⟨rfl, rfl, rfl, rfl, rfl, ?_, rfl, rfl, rfl, trivial⟩ rfl
  simp only
  rw [feedTo_succ]; rfl
 have k2 : ((m : Int) < (k.meals.length : Int)) = False := eq_false (by omega)
 have hi3 : m = k.meals.length := by omega
 subst hi3
 simp (maxSteps := 1000000) only [xE_ty, xE_fn, xE_bin, xE_oi, xE_oc, xE_ok, VL,VM,↓VG,reduceIte,reduceCtorEq,zA,zB,zC,zD,zE,zF,zG,zH,zI,zJ, k2]
 ((repeat refine Ws ?_);refine Wf (by first|rfl|simp only [EV,zF,reduceIte]) ?_)
 ((repeat refine Ws ?_);refine W_exit ?_)
 simp (maxSteps := 1000000) only [xE_ty, xE_fn, xE_bin, xE_oi, xE_oc, xE_ok, VL,VM,↓VG,reduceIte,reduceCtorEq,zA,zB,zC,zD,zE,zF,zG,zH,zI,zJ]
 have hSl : (feedTo k k.meals.length).1.length = k.meals.length := (FeedOk.to V _ (Nat.le_refl _)).srv.len
 have hSr := fun x hx => srv_rowl (FeedOk.to V _ (Nat.le_refl _)).srv (m := x) hx
 have hR : feedR k = .tup [servR k, vi (givenAll k - fedV k (srv0 k) (-1) 0), vi 0] := by unfold feedR; rw [if_pos a1]
 generalize givenAll k - fedV k (srv0 k) (-1) 0 = sp at hR k3
 by_cases m0 : k.meals.length = 0
 ·have hsv : svOf M.H.length k.meals.length tl = .sf 0 [] := if_pos m0
  rw [hsv]
  ((repeat refine Ws ?_);refine W_region0 TE_ok ?_)
  simp (maxSteps := 1000000) only [xE_ty, xE_fn, xE_bin, xE_oi, xE_oc, xE_ok, VL,VM,↓VG,reduceIte,reduceCtorEq,zA,zB,zC,zD,zE,zF,zG,zH,zI,zJ]
  (repeat refine Ws ?_)
  refine W_ret ?_
  try simp only [thenQ, blockQ]
  refine ⟨.inr rfl, rfl, ⟨X, rfl, hX⟩, M.H, _, rfl, rfl, [.sf 0 [], vi sp, vi 0], by simp [Tryd.f14, vresL, vload, xE_ty, t_table, get_cons, hget, hget0, nat_ble, strip1], .tup [.p (.sl 0 []), vi sp, vi 0], by simp [vtup, frz, frzL], by simp [refs, refsL], rfl, ?_⟩
  rw [hR]
  unfold servR
  rw [if_pos m0]
 have hsv : svOf M.H.length k.meals.length tl = .bf (M.H.length + (tl + 2)) 0 k.meals.length 1 := if_neg m0
 rw [hsv]
 refine W_frzRows (H0 := M.H) (i := k.meals.length) (G := k.gifts.length) (tl := tl + 2) (rl := fun m => rl m + 2) (S := (feedTo k k.meals.length).1) hSr (fun m hm => by have := hF.ne m hm; show rl m + 2 ≠ tl + 2; omega) (fun a b ha hb e => hF.inj a b ha hb (by have e : rl a + 2 = rl b + 2 := e; omega)) k.meals.length 0 _ (by omega) (by simp only [List.getElem?_cons_succ]; rw [hF.tab m0]; rfl) (fun m _ hm => by simp only [List.getElem?_cons_succ]; exact hF.row m hm) ?_
 intro L' hL' ht' ho'
 have h1 : L'[1]? = some (.obj [.bf (M.H.length + (tl + 2)) 0 k.meals.length 1]) := by
  rw [ho' 1 (by omega) (fun m _ => by show 1 ≠ rl m + 2; omega)]; rfl
 have h1l := lt_of_get h1
 have hn1 : (L'.set 1 (.obj [.bf (M.H.length + (tl + 2)) 0 k.meals.length 1]))[1]? = some (.obj [.bf (M.H.length + (tl + 2)) 0 k.meals.length 1]) := List.getElem?_set_self h1l
 have hn2 : (L'.set 1 (.obj [.bf (M.H.length + (tl + 2)) 0 k.meals.length 1]))[tl + 2]? = _ := (List.getElem?_set_ne (by omega)).trans ht'
 obtain ⟨Y, y1, y2⟩ := addLg_Y (M.H.length + 1) [M.H.length + (tl + 2)] (M.lg ++ X)
 ((repeat refine Ws ?_);refine W_region0 TE_ok ?_)
 simp (maxSteps := 1000000) only [xE_ty, xE_fn, xE_bin, xE_oi, xE_oc, xE_ok, VL,VM,↓VG,reduceIte,reduceCtorEq,zA,zB,zC,zD,zE,zF,zG,zH,zI,zJ, h1]
 rw [y1]
 (repeat refine Ws ?_)
 refine W_ret ?_
 try simp only [thenQ, blockQ]
 refine ⟨.inr rfl, rfl, ⟨X ++ Y, by rw [List.append_assoc], fun e he => ?_⟩, M.H, _, rfl, rfl, [.bf (M.H.length + (tl + 2)) 0 k.meals.length 1, vi sp, vi 0], ?_, .tup [tabV (feedTo k k.meals.length).1, vi sp, vi 0], ?_, by simp [refs, refsL], rfl, ?_⟩
 ·rcases List.mem_append.1 he with he | he
  ·exact hX e he
  ·have := (y2 e he).1; omega
 ·simp [Tryd.f14, vresL, vload, xE_ty, t_table, get_cons, hget, hn1, nat_ble, strip1]
 ·have hft := frz_table (n0 := M.H.length) (id := M.H.length + (tl + 2)) (H := M.H ++ L'.set 1 (.obj [.bf (M.H.length + (tl + 2)) 0 k.meals.length 1])) (S := (feedTo k k.meals.length).1) (by omega) (by rw [hget, hn2, hSl])
  rw [hSl] at hft
  have h3t : ∀ a b c : VV, frz M.H.length (M.H ++ L'.set 1 (.obj [.bf (M.H.length + (tl + 2)) 0 k.meals.length 1])) (.tup [a, b, c]) = .tup [frz M.H.length (M.H ++ L'.set 1 (.obj [.bf (M.H.length + (tl + 2)) 0 k.meals.length 1])) a, frz M.H.length (M.H ++ L'.set 1 (.obj [.bf (M.H.length + (tl + 2)) 0 k.meals.length 1])) b, frz M.H.length (M.H ++ L'.set 1 (.obj [.bf (M.H.length + (tl + 2)) 0 k.meals.length 1])) c] := fun a b c => by rw [frz, frzL, frzL, frzL, frzL]
  show frz _ _ (.tup [_, _, _]) = _
  rw [h3t, hft]
  simp [frz]
 ·rw [hR]
  unfold servR
  rw [if_neg m0]
end Go.Proofs.YtekhddlngbppkaaDoor.Vm
