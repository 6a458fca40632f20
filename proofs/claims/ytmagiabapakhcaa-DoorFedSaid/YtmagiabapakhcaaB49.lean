/- A part of the proofs about the chapter of the doors; it states no condition of its own. -/
import Derived.Test.YtmagiabapakhcaaB35
import Derived.Test.YtmagiabapakhcaaB48
set_option linter.unusedVariables false
set_option linter.unusedSimpArgs false
open Int renaming reduceLE → zA, reduceLT → zB, reduceToNat → zC, reduceNeg → zD
open Nat renaming reduceLT → zE, reduceEqDiff → zF, reduceAdd → zG, reduceSub → zH, reduceMul → zI, reduceLeDiff → zJ
/- The law of rules and bounds of servings, on values. (Vm) -/
namespace Go.Proofs.Ytmagiabapakhcaa.Vm
open Go Go.Proofs
theorem eaten0_r (k : Kn) (V : KV k) (M : Mem) : VC Try.prog 55 [kitV k, .p (.sl 0 [])] M (fun r M' => M' = M ∧ r = vi (fedV k (srv0 k) (-1) 0)) := by
 refine VC_nil0 (us := [kitV k]) (vs := []) (k := 1) ?_
 refine VC.mono (show VC Try.prog 55 [kitV k, intsV []] M _ from Eaten_r k V [] (feas_nil V) M) ?_
 rintro r M' ⟨h1, v, h2, h3⟩
 have := eaten_all V h3
 refine ⟨h1, ?_⟩
 rw [h2, this]
 simp
theorem serves_r (k : Kn) (V : KV k) (M : Mem) : VC Try.prog 54 [kitV k, servR k] M (fun r M' => M' = M ∧ r = .tup [vi (fedV k (srv0 k) (-1) 0), vb true]) := by
 have hZ := feed_Z V
 have key := serves_v k V (feedS k) hZ.i.ok.srv hZ.i.ok.fits hZ.inn M
 rw [feed_tot V] at key
 unfold servR
 split
 ·rename_i h0
  refine VC_nil0 (us := [kitV k]) (vs := []) (k := 1) ?_
  have e : feedS k = [] := List.eq_nil_of_length_eq_zero (hZ.i.ok.srv.len.trans h0)
  rw [e] at key
  exact key
 ·exact key
theorem servR_flat (k : Kn) : strip1 (servR k) = servR k ∧ refs (servR k) = [] := by
 unfold servR
 split <;> exact ⟨rfl, rfl⟩
theorem given_next {k : Kn} {i : Nat} (hi : i < k.gifts.length) : ((k.gifts.take (i + 1)).map Gi.portions).sum = ((k.gifts.take i).map Gi.portions).sum + (giAt k i).portions := by
 have hx : k.gifts[i]? = some (giAt k i) := by
  unfold giAt
  rw [List.getD_eq_getElem?_getD, List.getElem?_eq_getElem hi]; rfl
 rw [List.take_add_one, hx]
 simp
attribute [local irreducible] castF castU fromF fromU oneF oneU onceF
set_option maxHeartbeats 2000000 in
set_option maxRecDepth 8000 in
theorem fed_law_v (xs : List Int) (M : Mem) (hl : xs.length ≤ maxLen) : VC Try.prog 12 [intsV xs] M (fun r M' => M' = M ∧ r = vb true) := by
 refine VC_own' T_ok (f := 12) (fn := Try.f12) (by kernel_rfl) rfl Try.ntmps12 (by rfl) (by rfl) ?_
 ((repeat refine Ws ?_);refine Wr ?_)
 simp (maxSteps := 1000000) only [VL,VM,↓VG,reduceIte,reduceCtorEq,zA,zB,zC,zD,zE,zF,zG,zH,zI,zJ]
 ((repeat refine Ws ?_);refine Wr ?_)
 simp (maxSteps := 1000000) only [VL,VM,↓VG,reduceIte,reduceCtorEq,zA,zB,zC,zD,zE,zF,zG,zH,zI,zJ]
 apply call_eq (f := 20) (fn := Try.f20) (by kernel_rfl) (by rfl)
 ·exact dieOf_v xs M hl
 obtain ⟨H0, hH0⟩ : ∃ H0, H0 = M.H ++ [VObj.dead] := ⟨_, rfl⟩
 obtain ⟨d, hdd⟩ : ∃ d, d = M.H.length := ⟨_, rfl⟩
 have hd : d < H0.length := by rw [hH0, hdd]; simp
 have hlen0 : H0.length = M.H.length + 1 := by rw [hH0]; simp
 rw [← hH0, ← hdd]
 have tail : ∀ u L, DH H0 d u L = M.H ++ (.obj [uv u] :: L) := fun u L => by rw [hH0, hdd]; exact DH_tail M u L
 generalize dieU xs = u0
 simp (maxSteps := 1000000) only [VL,VM,↓VG,reduceIte,reduceCtorEq,zA,zB,zC,zD,zE,zF,zG,zH,zI,zJ]
 ((repeat refine Ws ?_);refine Wr ?_)
 simp (maxSteps := 1000000) only [VL,VM,↓VG,reduceIte,reduceCtorEq,zA,zB,zC,zD,zE,zF,zG,zH,zI,zJ]
 have o1 := oneF_mem (u := u0) (xs := [5, 300, 10000]) (by simp) (by simp)
 apply call_eq (f := 28) (fn := Try.f28) (by kernel_rfl) (by rfl)
 ·exact one_c hd u0 [5, 300, 10000] M.lg (by simp) (by simp)
 generalize oneF u0 [5, 300, 10000] = P at o1 ⊢
 generalize oneU u0 [5, 300, 10000] = u1
 have hP : 1 ≤ P ∧ P ≤ 10000 := by
  simp only [List.mem_cons, List.not_mem_nil, or_false] at o1
  rcases o1 with e | e | e <;> rw [e] <;> omega
 simp (maxSteps := 1000000) only [VL,VM,↓VG,reduceIte,reduceCtorEq,zA,zB,zC,zD,zE,zF,zG,zH,zI,zJ]
 refine fn_call (f := 36) (fn := Try.f36) (by kernel_rfl) (by rfl) ?_
 refine (kitchenOf_v hd u1 M.lg 5 5 P (by omega) (by omega) (by omega)).mono ?_
 rintro _ _ ⟨k, u2, rfl, rfl, m⟩
 have mV := m.V
 have m5 := mV.m1
 have g5 := mV.g1
 have hR : feedR k = .tup [servR k, vi (givenAll k - fedV k (srv0 k) (-1) 0), vi 0] := by unfold feedR; rw [if_pos (kitErr_ok.2 mV)]
 obtain ⟨sf1, sf2⟩ := servR_flat k
 have hfb := fedV_bd mV (srv0_ok k) (srv0_fits mV) (-1) 0
 have hgb := given_bd mV k.gifts.length
 rw [List.take_length] at hgb
 have hgb2 : 0 ≤ givenAll k ∧ givenAll k ≤ 50000 := by
  unfold givenAll
  omega
 have e0 := eaten0_r k mV
 have s0 := serves_r k mV
 generalize hfv : fedV k (srv0 k) (-1) 0 = fv at hR hfb e0 s0
 generalize servR k = sv at hR sf1 sf2 s0
 simp (maxSteps := 1000000) only [VL,VM,↓VG,reduceIte,reduceCtorEq,zA,zB,zC,zD,zE,zF,zG,zH,zI,zJ, DH_app hd, DH_len, DH_len0, DH_get hd, DH_get0 hd, DH_set hd, DH_set0 hd, DH_setd, DH_die hd]
 ((repeat refine Ws ?_);refine Wr ?_)
 simp (maxSteps := 1000000) only [VL,VM,↓VG,reduceIte,reduceCtorEq,zA,zB,zC,zD,zE,zF,zG,zH,zI,zJ, DH_app hd, DH_len, DH_len0, DH_get hd, DH_get0 hd, DH_set hd, DH_set0 hd, DH_setd, DH_die hd]
 apply call_eq (f := 38) (fn := Try.f38) (by kernel_rfl) (by rfl)
 ·exact Feed_v k _ (by omega) (by omega)
 rw [hR]
 simp (maxSteps := 1000000) only [VL,VM,↓VG,reduceIte,reduceCtorEq,zA,zB,zC,zD,zE,zF,zG,zH,zI,zJ, sf1]
 ((repeat refine Ws ?_);refine Wr ?_)
 simp (maxSteps := 1000000) only [VL,VM,↓VG,reduceIte,reduceCtorEq,zA,zB,zC,zD,zE,zF,zG,zH,zI,zJ, DH_app hd, DH_len, DH_len0, DH_get hd, DH_get0 hd, DH_set hd, DH_set0 hd, DH_setd, DH_die hd]
 refine fn_call (f := 54) (fn := Try.f54) (by kernel_rfl) (by rfl) ?_
 rw [show List.map strip1 [VV.agg [intsV k.meals, gisV k.gifts], sv] = [kitV k, sv] by simp only [List.map_cons, List.map_nil, sf1]; rfl]
 refine (s0 _).mono ?_
 rintro _ _ ⟨rfl, rfl⟩
 simp (maxSteps := 1000000) only [VL,VM,↓VG,reduceIte,reduceCtorEq,zA,zB,zC,zD,zE,zF,zG,zH,zI,zJ, DH_app hd, DH_len, DH_len0, DH_get hd, DH_get0 hd, DH_set hd, DH_set0 hd, DH_setd, DH_die hd]
 ((repeat refine Ws ?_);refine Wr ?_)
 simp (maxSteps := 1000000) only [VL,VM,↓VG,reduceIte,reduceCtorEq,zA,zB,zC,zD,zE,zF,zG,zH,zI,zJ]
 ((repeat refine Ws ?_);refine Wr ?_)
 simp (maxSteps := 1000000) only [VL,VM,↓VG,reduceIte,reduceCtorEq,zA,zB,zC,zD,zE,zF,zG,zH,zI,zJ]
 ((repeat refine Ws ?_);refine W_block ?_; (repeat refine Ws ?_)); refine W_loopS (fun i : Nat => [(4, .ptr H0.length 0), (6, vi (givenAll k - fv)), (7, vi 0), (8, vi fv), (9, vb true), (10, vi ((k.gifts.take i).map Gi.portions).sum), (11, vi i)]) (fun _ => ⟨DH H0 d u2 [.obj (kitC k)], M.lg⟩) (fun i => k.gifts.length - i) (fun i => i ≤ k.gifts.length) 0 (Nat.zero_le _) ⟨rfl, rfl, rfl, rfl, rfl, rfl, rfl, trivial⟩ rfl ?_
 intro i hi
 have k1 : -9223372036854775808 ≤ (i : Int) + 1 ∧ (i : Int) + 1 < 9223372036854775808 := by omega
 ((repeat refine Ws ?_);refine Wr ?_)
 rcases Nat.lt_or_ge i k.gifts.length with hlt | hge
 ·have k2 : ((i : Int) < (k.gifts.length : Int)) = True := eq_true (by omega)
  have hx' := giAt_get hlt
  have hs := given_next hlt
  have gb := given_bd mV i
  have tl : ((k.gifts.take i).length : Int) ≤ 5 := by rw [List.length_take]; omega
  have gv := giAt_V mV hlt
  have gp0 := gv.p0
  have gp1 := gv.p1
  have k3 : -9223372036854775808 ≤ ((k.gifts.take i).map Gi.portions).sum + (giAt k i).portions ∧ ((k.gifts.take i).map Gi.portions).sum + (giAt k i).portions < 9223372036854775808 := by omega
  generalize hsm : ((k.gifts.take i).map Gi.portions).sum = sm at hs k3 ⊢
  simp (maxSteps := 1000000) only [VL,VM,↓VG,reduceIte,reduceCtorEq,zA,zB,zC,zD,zE,zF,zG,zH,zI,zJ, DH_app hd, DH_len, DH_len0, DH_get hd, DH_get0 hd, DH_set hd, DH_set0 hd, DH_setd, DH_die hd, k2]
  ((repeat refine Ws ?_);refine Wt (by first|rfl|simp only [EV,zF,reduceIte]) ?_)
  ((repeat refine Ws ?_);refine W_skip ?_)
  simp (maxSteps := 1000000) only [VL,VM,↓VG,reduceIte,reduceCtorEq,zA,zB,zC,zD,zE,zF,zG,zH,zI,zJ]
  ((repeat refine Ws ?_);refine W_block ?_)
  ((repeat refine Ws ?_);refine Wr ?_)
  simp (maxSteps := 1000000) only [VL,VM,↓VG,reduceIte,reduceCtorEq,zA,zB,zC,zD,zE,zF,zG,zH,zI,zJ, DH_app hd, DH_len, DH_len0, DH_get hd, DH_get0 hd, DH_set hd, DH_set0 hd, DH_setd, DH_die hd, hx', k3]
  ((repeat refine Ws ?_);refine Wr ?_)
  simp (maxSteps := 1000000) only [VL,VM,↓VG,reduceIte,reduceCtorEq,zA,zB,zC,zD,zE,zF,zG,zH,zI,zJ, k1]
  refine LoopK.mk (i + 1) (by omega) (by omega) ⟨rfl, rfl, rfl, rfl, rfl, ?_, rfl, trivial⟩ rfl
  rw [hs]; rfl
 have k2 : ((i : Int) < (k.gifts.length : Int)) = False := eq_false (by omega)
 obtain rfl : i = k.gifts.length := by omega
 simp (maxSteps := 1000000) only [VL,VM,↓VG,reduceIte,reduceCtorEq,zA,zB,zC,zD,zE,zF,zG,zH,zI,zJ, DH_app hd, DH_len, DH_len0, DH_get hd, DH_get0 hd, DH_set hd, DH_set0 hd, DH_setd, DH_die hd, k2]
 ((repeat refine Ws ?_);refine Wf (by first|rfl|simp only [EV,zF,reduceIte]) ?_)
 ((repeat refine Ws ?_);refine W_exit ?_)
 simp (maxSteps := 1000000) only [VL,VM,↓VG,reduceIte,reduceCtorEq,zA,zB,zC,zD,zE,zF,zG,zH,zI,zJ]
 have hga : ((k.gifts.take k.gifts.length).map Gi.portions).sum = givenAll k := by rw [List.take_length]; rfl
 rw [hga]
 have k3 : -9223372036854775808 ≤ fv + (givenAll k - fv) ∧ fv + (givenAll k - fv) < 9223372036854775808 := by omega
 have k4 : fv + (givenAll k - fv) = givenAll k := by omega
 rw [k4] at k3
 ((repeat refine Ws ?_);refine Wr ?_)
 simp (maxSteps := 1000000) only [VL,VM,↓VG,reduceIte,reduceCtorEq,zA,zB,zC,zD,zE,zF,zG,zH,zI,zJ, DH_app hd, DH_len, DH_len0, DH_get hd, DH_get0 hd, DH_set hd, DH_set0 hd, DH_setd, DH_die hd, k4, k3, eq_self]
 apply call_eq (f := 55) (fn := Try.f55) (by kernel_rfl) (by rfl)
 ·exact e0 _
 simp (maxSteps := 1000000) only [VL,VM,↓VG,reduceIte,reduceCtorEq,zA,zB,zC,zD,zE,zF,zG,zH,zI,zJ, eq_self]
 apply call_eq (f := 18) (fn := Try.f18) (by kernel_rfl) (by rfl)
 ·exact awake_v _
 simp (maxSteps := 1000000) only [VL,VM,↓VG,reduceIte,reduceCtorEq,zA,zB,zC,zD,zE,zF,zG,zH,zI,zJ]
 rw [tail]
 (repeat refine Ws ?_)
 refine W_ret ?_
 try simp only [thenQ, blockQ]
 refine own_ret1 rfl ?_ (by rfl)
 simp only [get_cons, frz, vtup, Nat.reduceEqDiff, if_true, if_false, reduceIte]
end Go.Proofs.Ytmagiabapakhcaa.Vm
