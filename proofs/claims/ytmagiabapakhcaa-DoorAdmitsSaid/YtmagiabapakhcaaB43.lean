/- A part of the proofs about the chapter of the doors; it states no condition of its own. -/
import Derived.Test.YtmagiabapakhcaaB38
import Derived.Test.YtmagiabapakhcaaB42
set_option linter.unusedVariables false
set_option linter.unusedSimpArgs false
open Int renaming reduceLE → zA, reduceLT → zB, reduceToNat → zC, reduceNeg → zD
open Nat renaming reduceLT → zE, reduceEqDiff → zF, reduceAdd → zG, reduceSub → zH, reduceMul → zI, reduceLeDiff → zJ
/- The law of how many are safe, on values. (Vm) -/
namespace Go.Proofs.Ytmagiabapakhcaa.Vm
open Go Go.Proofs
attribute [local irreducible] castF castU fromF fromU oneF oneU onceF
set_option maxHeartbeats 8000000 in
set_option maxRecDepth 100000 in
theorem admits_law_v (x : Ho) (at_ ticks : Int) (closed : List Int) (xs : List Int) (M : Mem) (hl : xs.length ≤ maxLen) : VC Try.prog 15 [houseV x, vi at_, vi ticks, intsV closed, intsV xs] M (fun r M' => M' = M ∧ r = vb true) := by
 refine VC_own' T_ok (f := 15) (fn := Try.f15) (by kernel_rfl) rfl Try.ntmps15 (by rfl) (by rfl) ?_
 ((repeat refine Ws ?_);refine Wr ?_)
 simp (maxSteps := 1000000) only [VL,VM,↓VG,reduceIte,reduceCtorEq,zA,zB,zC,zD,zE,zF,zG,zH,zI,zJ]
 by_cases hbig : vastB x = true ∨ 12 < closed.length
 ·(repeat refine Ws ?_)
  refine W_then [(5, .ptr M.H.length 0), (36, vb true)] ⟨M.H ++ [.obj (houseC x)], M.lg⟩ ?_ ?_
  ·((repeat refine Ws ?_);refine Wr ?_)
   simp (maxSteps := 1000000) only [VL,VM,↓VG,reduceIte,reduceCtorEq,zA,zB,zC,zD,zE,zF,zG,zH,zI,zJ]
   apply call_eq (f := 17) (fn := Try.f17) (by kernel_rfl) (by rfl)
   ·exact vast_v x _
   cases hvast : vastB x with
   | true =>
    simp (maxSteps := 1000000) only [VL,VM,↓VG,reduceIte,reduceCtorEq,zA,zB,zC,zD,zE,zF,zG,zH,zI,zJ]
    exact ⟨rfl, rfl, trivial⟩
   | false =>
    have k2 : ((12 : Int) < (closed.length : Int)) = True := eq_true (by
     rcases hbig with h | h
     ·rw [hvast] at h; cases h
     ·omega)
    simp (maxSteps := 1000000) only [VL,VM,↓VG,reduceIte,reduceCtorEq,zA,zB,zC,zD,zE,zF,zG,zH,zI,zJ, k2]
    exact ⟨rfl, rfl, trivial⟩
  intro e' hS
  refine WCode.weak (e' := [(5, .ptr M.H.length 0), (36, vb true)]) ?_ (Sub.ok hS)
  ((repeat refine Ws ?_);refine Wt (by first|rfl|simp only [EV,zF,reduceIte]) ?_)
  ((repeat refine Ws ?_);refine Wr ?_)
  simp (maxSteps := 1000000) only [VL,VM,↓VG,reduceIte,reduceCtorEq,zA,zB,zC,zD,zE,zF,zG,zH,zI,zJ]
  apply call_eq (f := 18) (fn := Try.f18) (by kernel_rfl) (by rfl)
  ·exact awake_v _
  simp (maxSteps := 1000000) only [VL,VM,↓VG,reduceIte,reduceCtorEq,zA,zB,zC,zD,zE,zF,zG,zH,zI,zJ]
  (repeat refine Ws ?_)
  refine W_ret ?_
  try simp only [thenQ, blockQ]
  refine own_ret1 rfl ?_ (by rfl)
  simp only [get_cons, frz, vtup, Nat.reduceEqDiff, if_true, if_false, reduceIte]
 have hvast : vastB x = false := by
  cases h : vastB x with
  | true => exact absurd (.inl h) hbig
  | false => rfl
 obtain ⟨b1, b2, b3⟩ := not_vast hvast
 have b5 : closed.length ≤ 12 := by omega
 have k2 : ((12 : Int) < (closed.length : Int)) = False := eq_false (by omega)
 ((repeat refine Ws ?_);refine Wr ?_)
 simp (maxSteps := 1000000) only [VL,VM,↓VG,reduceIte,reduceCtorEq,zA,zB,zC,zD,zE,zF,zG,zH,zI,zJ]
 apply call_eq (f := 17) (fn := Try.f17) (by kernel_rfl) (by rfl)
 ·exact vast_v x _
 simp (maxSteps := 1000000) only [VL,VM,↓VG,reduceIte,reduceCtorEq,zA,zB,zC,zD,zE,zF,zG,zH,zI,zJ, hvast, k2]
 ((repeat refine Ws ?_);refine Wf (by first|rfl|simp only [EV,zF,reduceIte]) ?_)
 ((repeat refine Ws ?_);refine W_skip ?_)
 simp (maxSteps := 1000000) only [VL,VM,↓VG,reduceIte,reduceCtorEq,zA,zB,zC,zD,zE,zF,zG,zH,zI,zJ]
 ((repeat refine Ws ?_);refine Wr ?_)
 simp (maxSteps := 1000000) only [VL,VM,↓VG,reduceIte,reduceCtorEq,zA,zB,zC,zD,zE,zF,zG,zH,zI,zJ]
 apply call_eq (f := 20) (fn := Try.f20) (by kernel_rfl) (by rfl)
 ·exact dieOf_v xs _ hl
 obtain ⟨M1, hM1⟩ : ∃ M1, M1 = M.H ++ [VObj.obj (houseC x)] := ⟨_, rfl⟩
 obtain ⟨H0, hH0⟩ : ∃ H0, H0 = M1 ++ [VObj.dead] := ⟨_, rfl⟩
 obtain ⟨d, hdd⟩ : ∃ d, d = M1.length := ⟨_, rfl⟩
 have hd : d < H0.length := by rw [hH0, hdd]; simp
 have hlen0 : H0.length = M.H.length + 2 := by rw [hH0, hM1]; simp
 have hlen1 : d = M.H.length + 1 := by rw [hdd, hM1]; simp
 have hbx : ∀ u L, (DH H0 d u L)[M.H.length]? = some (VObj.obj (houseC x)) := fun u L => by
  have := DH_tail ⟨M1, M.lg⟩ u L
  rw [hH0, hdd, this, hM1]
  simp
 rw [← hM1, ← hH0, ← hdd]
 have tail : ∀ u L, DH H0 d u L = M.H ++ (VObj.obj (houseC x) :: .obj [uv u] :: L) := fun u L => by
  rw [hH0, hdd]
  have := DH_tail ⟨M1, M.lg⟩ u L
  rw [this, hM1]
  simp
 generalize dieU xs = u0
 simp (maxSteps := 1000000) only [VL,VM,↓VG,reduceIte,reduceCtorEq,zA,zB,zC,zD,zE,zF,zG,zH,zI,zJ]
 ((repeat refine Ws ?_);refine Wr ?_)
 simp (maxSteps := 1000000) only [VL,VM,↓VG,reduceIte,reduceCtorEq,zA,zB,zC,zD,zE,zF,zG,zH,zI,zJ]
 have o1 := oneF_mem (u := u0) (xs := [10, 60]) (by simp) (by simp)
 apply call_eq (f := 28) (fn := Try.f28) (by kernel_rfl) (by rfl)
 ·exact one_c hd u0 [10, 60] M.lg (by simp) (by simp)
 generalize oneF u0 [10, 60] = P at o1 ⊢
 generalize oneU u0 [10, 60] = u1
 have hP : 1 ≤ P ∧ P ≤ 200 := by
  simp only [List.mem_cons, List.not_mem_nil, or_false] at o1
  rcases o1 with e | e <;> rw [e] <;> omega
 simp (maxSteps := 1000000) only [VL,VM,↓VG,reduceIte,reduceCtorEq,zA,zB,zC,zD,zE,zF,zG,zH,zI,zJ]
 refine fn_call (f := 19) (fn := Try.f19) (by kernel_rfl) (by rfl) ?_
 refine (houseOf_v hd u1 M.lg 4 5 3 P (by omega) (by omega) (by omega) (by omega)).mono ?_
 rintro _ _ ⟨made, tt, u2, rfl, rfl, m⟩
 have mV := m.V
 have n1 := mV.n1
 have d1 := mV.d1
 have c1 := mV.c1
 have t0 := mV.t0
 have t1 := mV.t1
 have zd : made.doors.length ≤ 1000 := by omega
 simp (maxSteps := 1000000) only [VL,VM,↓VG,reduceIte,reduceCtorEq,zA,zB,zC,zD,zE,zF,zG,zH,zI,zJ, DH_app hd, DH_len, DH_len0, DH_get hd, DH_get0 hd, DH_set hd, DH_set0 hd, DH_setd, DH_die hd]
 ((repeat refine Ws ?_);refine Wr ?_)
 simp (maxSteps := 1000000) only [VL,VM,↓VG,reduceIte,reduceCtorEq,zA,zB,zC,zD,zE,zF,zG,zH,zI,zJ, DH_app hd, DH_len, DH_len0, DH_get hd, DH_get0 hd, DH_set hd, DH_set0 hd, DH_setd, DH_die hd]
 refine fn_call (f := 29) (fn := Try.f29) (by kernel_rfl) (by rfl) ?_
 have hsh := shutOf_v (H0 := H0 ++ [.obj (houseC made)]) (d := d) (by rw [List.length_append]; omega) u2 M.lg made zd
 rw [← DH_base, ← DH_base] at hsh
 refine hsh.mono ?_
 rintro _ _ ⟨rfl, rfl⟩
 clear hsh
 obtain ⟨hs1, hs2, hs3⟩ := shut_bd u2 made.doors.length
 generalize (shutSt u2 made.doors.length).1 = u3
 generalize (shutSt u2 made.doors.length).2 = shut at hs1 hs2 hs3 ⊢
 simp (maxSteps := 1000000) only [VL,VM,↓VG,reduceIte,reduceCtorEq,zA,zB,zC,zD,zE,zF,zG,zH,zI,zJ, DH_app hd, DH_len, DH_len0, DH_get hd, DH_get0 hd, DH_set hd, DH_set0 hd, DH_setd, DH_die hd]
 have kt : -9223372036854775808 ≤ made.ticks + 1 ∧ made.ticks + 1 < 9223372036854775808 := by omega
 (repeat refine Ws ?_)
 refine W_drawP T_ok [] (by kernel_rfl) (by kernel_rfl) ?_
 generalize hi : mkPlan _ = infs
 cbv at hi
 subst hi
 simp (maxSteps := 1000000) only [VL,VM,↓VG,reduceIte,reduceCtorEq,zA,zB,zC,zD,zE,zF,zG,zH,zI,zJ, DH_app hd, DH_len, DH_len0, DH_get hd, DH_get0 hd, DH_set hd, DH_set0 hd, DH_setd, DH_die hd, hbx, kt]
 apply call_d (f := 45) (fn := Try.f45) (by kernel_rfl) (by rfl)
 ·exact cast_c hd u3 (made.ticks + 1) _ (by omega)
 generalize castF u3 (made.ticks + 1) = a1
 generalize castU u3 (made.ticks + 1) = u4
 simp (maxSteps := 1000000) only [VL,VM,↓VG,reduceIte,reduceCtorEq,zA,zB,zC,zD,zE,zF,zG,zH,zI,zJ, DH_app hd, DH_len, DH_len0, DH_get hd, DH_get0 hd, DH_set hd, DH_set0 hd, DH_setd, DH_die hd, hbx, kt]
 apply call_d (f := 45) (fn := Try.f45) (by kernel_rfl) (by rfl)
 ·exact cast_c hd u4 (made.ticks + 1) _ (by omega)
 generalize castF u4 (made.ticks + 1) = a2
 generalize castU u4 (made.ticks + 1) = u5
 simp (maxSteps := 1000000) only [VL,VM,↓VG,reduceIte,reduceCtorEq,zA,zB,zC,zD,zE,zF,zG,zH,zI,zJ, DH_app hd, DH_len, DH_len0, DH_get hd, DH_get0 hd, DH_set hd, DH_set0 hd, DH_setd, DH_die hd, hbx, kt]
 apply call_d (f := 45) (fn := Try.f45) (by kernel_rfl) (by rfl)
 ·exact cast_c hd u5 7 _ (by omega)
 generalize castF u5 7 = g1
 generalize castU u5 7 = u6
 simp (maxSteps := 1000000) only [VL,VM,↓VG,reduceIte,reduceCtorEq,zA,zB,zC,zD,zE,zF,zG,zH,zI,zJ, DH_app hd, DH_len, DH_len0, DH_get hd, DH_get0 hd, DH_set hd, DH_set0 hd, DH_setd, DH_die hd, hbx, kt]
 apply call_d (f := 45) (fn := Try.f45) (by kernel_rfl) (by rfl)
 ·exact cast_c hd u6 7 _ (by omega)
 generalize castF u6 7 = g2
 generalize castU u6 7 = u7
 simp (maxSteps := 1000000) only [VL,VM,↓VG,reduceIte,reduceCtorEq,zA,zB,zC,zD,zE,zF,zG,zH,zI,zJ, DH_app hd, DH_len, DH_len0, DH_get hd, DH_get0 hd, DH_set hd, DH_set0 hd, DH_setd, DH_die hd, hbx, kt]
 obtain ⟨hs, hhs⟩ : ∃ hs, hs = [x, made, made, made] := ⟨_, rfl⟩
 obtain ⟨ats, has⟩ : ∃ ats, ats = [at_, a1, at_, a2] := ⟨_, rfl⟩
 obtain ⟨ts, hts⟩ : ∃ ts, ts = [ticks, g1, ticks, g2] := ⟨_, rfl⟩
 obtain ⟨cs, hcs⟩ : ∃ cs, cs = [closed, shut, shut, closed] := ⟨_, rfl⟩
 have hs4 : hs.length = 4 := by rw [hhs]; rfl
 have as4 : ats.length = 4 := by rw [has]; rfl
 have ts4 : ts.length = 4 := by rw [hts]; rfl
 have cs4 : cs.length = 4 := by rw [hcs]; rfl
 have hFs : ∀ y ∈ hs, y.holds.length ≤ 100 ∧ y.doors.length ≤ 100 ∧ y.counts.length ≤ 100 := by
  rw [hhs]
  intro y hy
  simp only [List.mem_cons, List.not_mem_nil, or_false] at hy
  rcases hy with rfl | rfl | rfl | rfl <;> omega
 have hCs : ∀ y ∈ cs, y.length ≤ 100 := by
  rw [hcs]
  intro y hy
  simp only [List.mem_cons, List.not_mem_nil, or_false] at hy
  rcases hy with rfl | rfl | rfl | rfl <;> omega
 ((repeat refine Ws ?_);refine Wr ?_)
 simp (maxSteps := 1000000) only [VL,VM,↓VG,reduceIte,reduceCtorEq,zA,zB,zC,zD,zE,zF,zG,zH,zI,zJ]
 rw [tail]
 ((repeat refine Ws ?_);refine W_block ?_; (repeat refine Ws ?_)); refine W_loopS (fun s : JSt => [(15, .sf 6 (hs.map housePP)), (16, .sf 1 (ats.map intP)), (17, .sf 1 (ts.map intP)), (18, .sf 1 (cs.map rowP)), (19, vi s.i)]) (fun s => ⟨M.H ++ (VObj.obj (houseC x) :: VObj.obj [uv u7] :: VObj.obj (houseC made) :: s.junk), M.lg⟩) (fun s => 4 - s.i) (fun s => s.i ≤ 4) ⟨0, []⟩ (Nat.zero_le _) ⟨?_, ?_, ?_, ?_, rfl, trivial⟩ rfl ?_
 ·rw [hhs]; simp [get_cons]
 ·rw [has]; simp [get_cons]
 ·rw [hts]; simp [get_cons]
 ·rw [hcs]; simp [get_cons]
 rintro ⟨i, junk⟩ hi
 simp only at hi
 have k1 : -9223372036854775808 ≤ (i : Int) + 1 ∧ (i : Int) + 1 < 9223372036854775808 := by omega
 ((repeat refine Ws ?_);refine Wr ?_)
 rcases Nat.lt_or_ge i 4 with hlt | hge
 rotate_left
 ·have k2 : ((i : Int) < ((4 : Nat) : Int)) = False := eq_false (by omega)
  simp (maxSteps := 1000000) only [VL,VM,↓VG,reduceIte,reduceCtorEq,zA,zB,zC,zD,zE,zF,zG,zH,zI,zJ, List.length_map, hs4, k2]
  ((repeat refine Ws ?_);refine Wf (by first|rfl|simp only [EV,zF,reduceIte]) ?_)
  ((repeat refine Ws ?_);refine W_exit ?_)
  simp (maxSteps := 1000000) only [VL,VM,↓VG,reduceIte,reduceCtorEq,zA,zB,zC,zD,zE,zF,zG,zH,zI,zJ]
  ((repeat refine Ws ?_);refine Wr ?_)
  simp (maxSteps := 1000000) only [VL,VM,↓VG,reduceIte,reduceCtorEq,zA,zB,zC,zD,zE,zF,zG,zH,zI,zJ]
  apply call_eq (f := 18) (fn := Try.f18) (by kernel_rfl) (by rfl)
  ·exact awake_v _
  simp (maxSteps := 1000000) only [VL,VM,↓VG,reduceIte,reduceCtorEq,zA,zB,zC,zD,zE,zF,zG,zH,zI,zJ]
  (repeat refine Ws ?_)
  refine W_ret ?_
  try simp only [thenQ, blockQ]
  refine own_ret1 rfl ?_ (by rfl)
  simp only [get_cons, frz, vtup, Nat.reduceEqDiff, if_true, if_false, reduceIte]
 have k2 : ((i : Int) < ((4 : Nat) : Int)) = True := eq_true (by omega)
 have hx : hs[i]? = some (hs[i]'(by omega)) := List.getElem?_eq_getElem (by omega)
 have hy : ats[i]? = some (ats[i]'(by omega)) := List.getElem?_eq_getElem (by omega)
 have hw : ts[i]? = some (ts[i]'(by omega)) := List.getElem?_eq_getElem (by omega)
 have hz : cs[i]? = some (cs[i]'(by omega)) := List.getElem?_eq_getElem (by omega)
 obtain ⟨f1, f2, f3⟩ := hFs _ (List.getElem_mem (l := hs) (n := i) (by omega))
 have f5 := hCs _ (List.getElem_mem (l := cs) (n := i) (by omega))
 generalize hs[i]'(by omega) = h at hx f1 f2 f3
 generalize ats[i]'(by omega) = aa at hy
 generalize ts[i]'(by omega) = tk at hw
 generalize cs[i]'(by omega) = c at hz f5
 have hx' := map_at (f := housePP) hx
 have hy' := map_at (f := intP) hy
 have hw' := map_at (f := intP) hw
 have hz' := map_at (f := rowP) hz
 clear hx hy hz hw hFs hCs
 simp (maxSteps := 1000000) only [VL,VM,↓VG,reduceIte,reduceCtorEq,zA,zB,zC,zD,zE,zF,zG,zH,zI,zJ, List.length_map, hs4, k2]
 ((repeat refine Ws ?_);refine Wt (by first|rfl|simp only [EV,zF,reduceIte]) ?_)
 ((repeat refine Ws ?_);refine W_skip ?_)
 simp (maxSteps := 1000000) only [VL,VM,↓VG,reduceIte,reduceCtorEq,zA,zB,zC,zD,zE,zF,zG,zH,zI,zJ]
 ((repeat refine Ws ?_);refine W_block ?_)
 (repeat refine Ws ?_)
 refine W_drawP T_ok [VObj.obj [.sf 0 [], .sf 0 [], vi 0, vi 0, vi 0, .sf 0 []]] (by kernel_rfl) (by kernel_rfl) ?_
 generalize hi : mkPlan _ = infs
 cbv at hi
 subst hi
 simp (maxSteps := 1000000) only [VL,VM,↓VG,reduceIte,reduceCtorEq,zA,zB,zC,zD,zE,zF,zG,zH,zI,zJ, hx', hz']
 apply call_d (f := 21) (fn := Try.f21) (by kernel_rfl) (by rfl)
 ·exact copyHouse_v h _ (by omega) (by omega) (by omega)
 simp (maxSteps := 1000000) only [VL,VM,↓VG,reduceIte,reduceCtorEq,zA,zB,zC,zD,zE,zF,zG,zH,zI,zJ, hx', hz']
 apply call_d (f := 31) (fn := Try.f31) (by kernel_rfl) (by rfl)
 ·exact copyInts_v c _ (by omega)
 simp (maxSteps := 1000000) only [VL,VM,↓VG,reduceIte,reduceCtorEq,zA,zB,zC,zD,zE,zF,zG,zH,zI,zJ, hx', hz']
 (repeat refine Ws ?_)
 refine W_drawP T_ok [] (by kernel_rfl) (by kernel_rfl) ?_
 generalize hi : mkPlan _ = infs
 cbv at hi
 subst hi
 simp (maxSteps := 1000000) only [VL,VM,↓VG,reduceIte,reduceCtorEq,zA,zB,zC,zD,zE,zF,zG,zH,zI,zJ, hw']
 apply call_d (f := 52) (fn := Try.f52) (by kernel_rfl) (by rfl)
 ·exact Admit_v h tk c _ (by omega) (by omega) (by omega) (by omega)
 simp (maxSteps := 1000000) only [VL,VM,↓VG,reduceIte,reduceCtorEq,zA,zB,zC,zD,zE,zF,zG,zH,zI,zJ, hw']
 (repeat refine Ws ?_)
 refine W_drawP T_ok [] (by kernel_rfl) (by kernel_rfl) ?_
 generalize hi : mkPlan _ = infs
 cbv at hi
 subst hi
 simp (maxSteps := 1000000) only [VL,VM,↓VG,reduceIte,reduceCtorEq,zA,zB,zC,zD,zE,zF,zG,zH,zI,zJ, hx', hw', hz']
 apply call_d (f := 57) (fn := Try.f57) (by kernel_rfl) (by rfl)
 ·exact Admit_r h tk c _ (by omega) (by omega) (by omega) (by omega)
 simp (maxSteps := 1000000) only [VL,VM,↓VG,reduceIte,reduceCtorEq,zA,zB,zC,zD,zE,zF,zG,zH,zI,zJ, hx', hw', hz']
 (repeat refine Ws ?_)
 refine W_drawP T_ok [] (by kernel_rfl) (by kernel_rfl) ?_
 generalize hi : mkPlan _ = infs
 cbv at hi
 subst hi
 simp (maxSteps := 1000000) only [VL,VM,↓VG,reduceIte,reduceCtorEq,zA,zB,zC,zD,zE,zF,zG,zH,zI,zJ, hy', hw']
 apply call_d (f := 58) (fn := Try.f58) (by kernel_rfl) (by rfl)
 ·exact Safe_v h aa tk c _ (by omega) (by omega) (by omega) (by omega)
 simp (maxSteps := 1000000) only [VL,VM,↓VG,reduceIte,reduceCtorEq,zA,zB,zC,zD,zE,zF,zG,zH,zI,zJ, hy', hw']
 (repeat refine Ws ?_)
 refine W_drawP T_ok [] (by kernel_rfl) (by kernel_rfl) ?_
 generalize hi : mkPlan _ = infs
 cbv at hi
 subst hi
 simp (maxSteps := 1000000) only [VL,VM,↓VG,reduceIte,reduceCtorEq,zA,zB,zC,zD,zE,zF,zG,zH,zI,zJ, hx', hy', hw', hz']
 apply call_d (f := 59) (fn := Try.f59) (by kernel_rfl) (by rfl)
 ·exact Safe_r h aa tk c _ (by omega) (by omega) (by omega) (by omega)
 simp (maxSteps := 1000000) only [VL,VM,↓VG,reduceIte,reduceCtorEq,zA,zB,zC,zD,zE,zF,zG,zH,zI,zJ, hx', hy', hw', hz']
 have es2 := sameInts_v c c
 rw [decide_eq_true rfl] at es2
 (repeat refine Ws ?_)
 refine W_drawP T_ok [] (by kernel_rfl) (by kernel_rfl) ?_
 generalize hi : mkPlan _ = infs
 cbv at hi
 subst hi
 simp (maxSteps := 1000000) only [VL,VM,↓VG,reduceIte,reduceCtorEq,zA,zB,zC,zD,zE,zF,zG,zH,zI,zJ, hx', hz', eq_self, decide_true, Bool.not_true]
 apply call_d (f := 27) (fn := Try.f27) (by kernel_rfl) (by rfl)
 ·exact sameHouse_v h _ (by omega) (by omega) (by omega)
 simp (maxSteps := 1000000) only [VL,VM,↓VG,reduceIte,reduceCtorEq,zA,zB,zC,zD,zE,zF,zG,zH,zI,zJ, hx', hz', eq_self, decide_true, Bool.not_true]
 apply call_d (f := 34) (fn := Try.f34) (by kernel_rfl) (by rfl)
 ·exact es2 _ (by omega)
 simp (maxSteps := 1000000) only [VL,VM,↓VG,reduceIte,reduceCtorEq,zA,zB,zC,zD,zE,zF,zG,zH,zI,zJ, hx', hz', eq_self, decide_true, Bool.not_true]
 ((repeat refine Ws ?_);refine Wf (by first|rfl|simp only [EV,zF,reduceIte]) ?_)
 ((repeat refine Ws ?_);refine W_skip ?_)
 simp (maxSteps := 1000000) only [VL,VM,↓VG,reduceIte,reduceCtorEq,zA,zB,zC,zD,zE,zF,zG,zH,zI,zJ]
 ((repeat refine Ws ?_);refine Wr ?_)
 simp (maxSteps := 1000000) only [VL,VM,↓VG,reduceIte,reduceCtorEq,zA,zB,zC,zD,zE,zF,zG,zH,zI,zJ, k1]
 refine LoopK.mk ⟨i + 1, junk ++ [VObj.obj (houseC h)]⟩ (by simp only; omega) (by simp only; omega) ⟨rfl, rfl, rfl, rfl, rfl, trivial⟩ rfl
end Go.Proofs.Ytmagiabapakhcaa.Vm
