/- A part of the proofs about the chapter of the doors; it states no condition of its own. -/
import Derived.Test.YtekhddlngbppkaaDoorB31
import Derived.Test.YtekhddlngbppkaaDoorB32
set_option linter.unusedVariables false
set_option linter.unusedSimpArgs false
open Int renaming reduceLE → zA, reduceLT → zB, reduceToNat → zC, reduceNeg → zD
open Nat renaming reduceLT → zE, reduceEqDiff → zF, reduceAdd → zG, reduceSub → zH, reduceMul → zI, reduceLeDiff → zJ
/- The law of the doors' examples. (Vm) -/
namespace Go.Proofs.YtekhddlngbppkaaDoor.Vm
open Go Go.Proofs
theorem addLg_no {id r : Nat} {lg : List (Nat × Nat)} (h : r ≤ id) : addLg id [r] lg = lg := by
 unfold addLg
 have hb : Nat.blt id r = false := by
  rw [← Bool.not_eq_true, Nat.blt_eq]
  omega
 simp [hb]
theorem own_retY {f : Nat} {fn : Func} {M : Mem} {L : List VObj} {Y : List (Nat × Nat)} {e : Env} {t : Nat} {X : VV} (hY : ∀ x ∈ Y, M.H.length ≤ x.1) (h1 : fn.results.toList = [.tmp t]) (hr : frz M.H.length (M.H ++ L) (get e t) = X) (h2 : refs X = []) : ownQ T f fn M (fun r M' => M' = M ∧ r = X) .ret e ⟨M.H ++ L, M.lg ++ Y⟩ [] :=
 ⟨.inr rfl, rfl, ⟨Y, rfl, hY⟩, M.H, L, rfl, rfl, [get e t], by rw [h1]; rfl, X, hr, by simp [h2], rfl, rfl⟩
theorem litT : vbin T .eql 9 (vs txH) (.p (.str ⟨⟨([104, 111, 117, 115, 101, 32, 49, 48, 32, 49, 53, 32, 51, 10, 104, 97, 108, 108, 32, 49, 48, 48, 10, 104, 97, 108, 108, 32, 53, 48, 10, 100, 111].append [111, 114, 32, 48, 32, 45, 49, 32, 50, 48, 10, 100, 111, 111, 114, 32, 48, 32, 49, 32, 49, 48, 10, 100, 111, 111, 114, 32, 49, 32, 45, 49, 32, 53]).append ([10, 99, 111, 117, 110, 116, 32, 48, 32, 48, 32, 50, 48, 32, 50, 53, 32, 48, 32, 53, 10, 99, 111, 117, 110, 116, 32, 49, 32, 48, 32, 53, 32].append [53, 32, 49, 48, 32, 50, 48, 10, 99, 111, 117, 110, 116, 32, 50, 32, 50, 32, 48, 32, 48, 32, 51, 48, 32, 51, 48, 10, 101, 110, 100, 32, 51, 10])⟩⟩)) = some (vb true) := by
 have h : (⟨⟨([104, 111, 117, 115, 101, 32, 49, 48, 32, 49, 53, 32, 51, 10, 104, 97, 108, 108, 32, 49, 48, 48, 10, 104, 97, 108, 108, 32, 53, 48, 10, 100, 111].append [111, 114, 32, 48, 32, 45, 49, 32, 50, 48, 10, 100, 111, 111, 114, 32, 48, 32, 49, 32, 49, 48, 10, 100, 111, 111, 114, 32, 49, 32, 45, 49, 32, 53]).append ([10, 99, 111, 117, 110, 116, 32, 48, 32, 48, 32, 50, 48, 32, 50, 53, 32, 48, 32, 53, 10, 99, 111, 117, 110, 116, 32, 49, 32, 48, 32, 53, 32].append [53, 32, 49, 48, 32, 50, 48, 10, 99, 111, 117, 110, 116, 32, 50, 32, 50, 32, 48, 32, 48, 32, 51, 48, 32, 51, 48, 10, 101, 110, 100, 32, 51, 10])⟩⟩ : ByteArray) = tx txH := rfl
 rw [h]
 exact (v_eqS _ _ _).trans (by simp)
theorem hH_writeT : writeT hH = txH := (if_pos hH_err).trans hH_write
theorem mH0_R : insideR mH0 = .tup [.p (.sl 0 []), vi 9] := by unfold insideR; rw [if_pos mH0_err, mH0_in]
abbrev knL (n : Nat) : List VObj := [.obj (dhC (n + 1)), .dead, .obj (chC (n + 3)), .dead, .obj (chC (n + 5)), .dead, .obj (houseC nH0), .obj (houseC sH0), .obj (houseC iH0), .obj (houseC mH0)]
set_option maxHeartbeats 8000000 in
set_option maxRecDepth 100000 in
theorem known_v (M : Mem) : VC Tryd.prog 3 [] M (fun r M' => M' = M ∧ r = vb true) := by
 have l1 : ∀ lg, addLg (M.H.length + 7) [M.H.length + 1] lg = lg := fun lg => addLg_no (by omega)
 have l2 : ∀ lg, addLg (M.H.length + 8) [M.H.length + 3] lg = lg := fun lg => addLg_no (by omega)
 have l3 : ∀ lg, addLg (M.H.length + 9) [M.H.length + 5] lg = lg := fun lg => addLg_no (by omega)
 refine VC_own' T_ok (f := 3) (fn := Tryd.f3) (by kernel_rfl) rfl Tryd.ntmps3 (by rfl) (by rfl) ?_
 ((repeat refine Ws ?_);refine W_regionE T_ok ?_; intro Kn hKn)
 ((simp (maxSteps := 1000000) only [VL,VM,↓VG,reduceIte,reduceCtorEq,zA,zB,zC,zD,zE,zF,zG,zH,zI,zJ]); rw [hKn];clear hKn Kn;simp only [QV,reduceIte,reduceCtorEq,Nat.reduceEqDiff])
 ((repeat refine Ws ?_);refine W_regionE T_ok ?_; intro Kn hKn)
 simp (maxSteps := 1000000) only [VL,VM,↓VG,reduceIte,reduceCtorEq,zA,zB,zC,zD,zE,zF,zG,zH,zI,zJ]
 apply call_eq (f := 4) (fn := Tryd.f4) (by kernel_rfl) (by rfl)
 ·exact house_v _
 simp (maxSteps := 1000000) only [VL,VM,↓VG,reduceIte,reduceCtorEq,zA,zB,zC,zD,zE,zF,zG,zH,zI,zJ]
 refine fn_call (f := 4) (fn := Tryd.f4) (by kernel_rfl) (by rfl) ?_
 refine (house_dh _).mono ?_
 rintro _ _ ⟨⟨Y1, rfl, hY1⟩, rfl⟩
 simp (maxSteps := 1000000) only [VL,VM,↓VG,reduceIte,reduceCtorEq,zA,zB,zC,zD,zE,zF,zG,zH,zI,zJ]
 refine fn_call (f := 4) (fn := Tryd.f4) (by kernel_rfl) (by rfl) ?_
 refine (house_ch _).mono ?_
 rintro _ _ ⟨⟨Y2, rfl, hY2⟩, rfl⟩
 simp (maxSteps := 1000000) only [VL,VM,↓VG,reduceIte,reduceCtorEq,zA,zB,zC,zD,zE,zF,zG,zH,zI,zJ]
 refine fn_call (f := 4) (fn := Tryd.f4) (by kernel_rfl) (by rfl) ?_
 refine (house_ch _).mono ?_
 rintro _ _ ⟨⟨Y3, rfl, hY3⟩, rfl⟩
 ((simp (maxSteps := 1000000) only [VL,VM,↓VG,reduceIte,reduceCtorEq,zA,zB,zC,zD,zE,zF,zG,zH,zI,zJ, l1, l2, l3]); rw [hKn];clear hKn Kn;simp only [QV,reduceIte,reduceCtorEq,Nat.reduceEqDiff])
 simp only [List.length_append, List.length_cons, List.length_nil, Nat.reduceAdd] at hY1 hY2 hY3
 obtain ⟨YY, hYY⟩ : ∃ YY, YY = Y1 ++ (Y2 ++ Y3) := ⟨_, rfl⟩
 have hY : ∀ e ∈ YY, M.H.length ≤ e.1 := fun e he => by
  rw [hYY] at he
  rcases List.mem_append.1 he with h | h
  ·exact hY1 e h
  ·rcases List.mem_append.1 h with h | h
   ·have := hY2 e h; omega
   ·have := hY3 e h; omega
 rw [← hYY]
 clear hYY hY1 hY2 hY3
 (repeat refine Ws ?_)
 refine W_drawE T_ok [] (by kernel_rfl) (by kernel_rfl) ?_
 intro Kn hKn
 generalize hi : mkPlan _ = infs
 cbv at hi
 subst hi
 simp (maxSteps := 1000000) only [VL,VM,↓VG,reduceIte,reduceCtorEq,zA,zB,zC,zD,zE,zF,zG,zH,zI,zJ, l1, l2, l3]
 apply call_d (f := 5) (fn := Tryd.f5) (by kernel_rfl) (by rfl)
 ·exact spanl_v 50 50 _
 ((simp (maxSteps := 1000000) only [VL,VM,↓VG,reduceIte,reduceCtorEq,zA,zB,zC,zD,zE,zF,zG,zH,zI,zJ, l1, l2, l3]); rw [hKn];clear hKn Kn;simp only [QV,reduceIte,reduceCtorEq,Nat.reduceEqDiff])
 (repeat refine Ws ?_)
 refine W_frz1 (id := M.H.length + 1) (n := 3) (k := 3) (o := M.H.length + 7) (j := 1) (xs := sH0.doors.map doP) (by rw [hget]; rfl) (by rw [hget]; rfl) rfl (by simp) rfl (by omega) ?_
 simp only [hset, List.set_cons_succ, List.set_cons_zero]
 refine W_frz1 (id := M.H.length + 3) (n := 3) (k := 6) (o := M.H.length + 8) (j := 5) (xs := iH0.counts.map coP) (by rw [hget]; rfl) (by rw [hget]; rfl) rfl (by simp) rfl (by omega) ?_
 simp only [hset, List.set_cons_succ, List.set_cons_zero]
 refine W_frz1 (id := M.H.length + 5) (n := 3) (k := 6) (o := M.H.length + 9) (j := 5) (xs := mH0.counts.map coP) (by rw [hget]; rfl) (by rw [hget]; rfl) rfl (by simp) rfl (by omega) ?_
 simp only [hset, List.set_cons_succ, List.set_cons_zero]
 refine W_nilobj (id := M.H.length + 6) (off := 0) (k := 1) (k0 := 0) (cs := [.sf 0 [], dosV hH.doors, vi 10, vi 15, vi 3, cosV hH.counts]) (by rw [hget]; rfl) rfl ?_
 simp only [hset, List.set_cons_succ, List.set_cons_zero]
 refine W_eqM (M' := ⟨M.H ++ knL M.H.length, M.lg ++ YY⟩) rfl ?_
 refine WCode.weak (e' := [(1, .ptr (M.H.length + 6) 0), (2, .ptr (M.H.length + 7) 0), (3, .ptr (M.H.length + 8) 0), (4, .ptr (M.H.length + 9) 0)]) ?_ (Sub.ok ⟨rfl, rfl, rfl, rfl, trivial⟩)
 ((repeat refine Ws ?_);refine W_regionE T_ok ?_; intro Kn hKn)
 simp (maxSteps := 1000000) only [VL,VM,↓VG,reduceIte,reduceCtorEq,zA,zB,zC,zD,zE,zF,zG,zH,zI,zJ]
 apply call_eq (f := 6) (fn := Tryd.f6) (by kernel_rfl) (by rfl)
 ·exact Inside_v mH0 _ (by decide) (by decide) (by decide)
 rw [mH0_R]
 ((simp (maxSteps := 1000000) only [VL,VM,↓VG,reduceIte,reduceCtorEq,zA,zB,zC,zD,zE,zF,zG,zH,zI,zJ]); rw [hKn];clear hKn Kn;simp only [QV,reduceIte,reduceCtorEq,Nat.reduceEqDiff])
 ((repeat refine Ws ?_);refine W_regionE T_ok ?_; intro Kn hKn)
 simp (maxSteps := 1000000) only [VL,VM,↓VG,reduceIte,reduceCtorEq,zA,zB,zC,zD,zE,zF,zG,zH,zI,zJ]
 apply call_eq (f := 7) (fn := Tryd.f7) (by kernel_rfl) (by rfl)
 ·exact awake_v _
 simp (maxSteps := 1000000) only [VL,VM,↓VG,reduceIte,reduceCtorEq,zA,zB,zC,zD,zE,zF,zG,zH,zI,zJ]
 apply call_eq (f := 4) (fn := Tryd.f4) (by kernel_rfl) (by rfl)
 ·exact house_v _
 simp (maxSteps := 1000000) only [VL,VM,↓VG,reduceIte,reduceCtorEq,zA,zB,zC,zD,zE,zF,zG,zH,zI,zJ]
 apply call_eq (f := 8) (fn := Tryd.f8) (by kernel_rfl) (by rfl)
 ·exact check_v hH _ (by decide) (by decide) (by decide)
 simp (maxSteps := 1000000) only [VL,VM,↓VG,reduceIte,reduceCtorEq,zA,zB,zC,zD,zE,zF,zG,zH,zI,zJ, hH_err]
 apply call_eq (f := 8) (fn := Tryd.f8) (by kernel_rfl) (by rfl)
 ·exact check_v nH0 _ (by decide) (by decide) (by decide)
 simp (maxSteps := 1000000) only [VL,VM,↓VG,reduceIte,reduceCtorEq,zA,zB,zC,zD,zE,zF,zG,zH,zI,zJ, nH0_err]
 apply call_eq (f := 8) (fn := Tryd.f8) (by kernel_rfl) (by rfl)
 ·exact check_v sH0 _ (by decide) (by decide) (by decide)
 simp (maxSteps := 1000000) only [VL,VM,↓VG,reduceIte,reduceCtorEq,zA,zB,zC,zD,zE,zF,zG,zH,zI,zJ, sH0_err]
 apply call_eq (f := 8) (fn := Tryd.f8) (by kernel_rfl) (by rfl)
 ·exact check_v iH0 _ (by decide) (by decide) (by decide)
 ((simp (maxSteps := 1000000) only [VL,VM,↓VG,reduceIte,reduceCtorEq,zA,zB,zC,zD,zE,zF,zG,zH,zI,zJ, iH0_err]); rw [hKn];clear hKn Kn;simp only [QV,reduceIte,reduceCtorEq,Nat.reduceEqDiff])
 ((repeat refine Ws ?_);refine Wf (by first|rfl|simp only [EV,zF,reduceIte]) ?_)
 (((repeat refine Ws ?_);refine W_skip ?_); simp only [QV,reduceIte,reduceCtorEq,Nat.reduceEqDiff])
 refine WCode.weak (e' := [(6, vi 9)]) ?_ (Sub.ok ⟨rfl, trivial⟩)
 obtain ⟨L, hL⟩ : ∃ L, L = knL M.H.length := ⟨_, rfl⟩
 rw [← hL]
 ((repeat refine Ws ?_);refine W_regionE T_ok ?_; intro Kn hKn)
 ((simp (maxSteps := 1000000) only [VL,VM,↓VG,reduceIte,reduceCtorEq,zA,zB,zC,zD,zE,zF,zG,zH,zI,zJ]); rw [hKn];clear hKn Kn;simp only [QV,reduceIte,reduceCtorEq,Nat.reduceEqDiff])
 ((repeat refine Ws ?_);refine W_regionE T_ok ?_; intro Kn hKn)
 ((simp (maxSteps := 1000000) only [VL,VM,↓VG,reduceIte,reduceCtorEq,zA,zB,zC,zD,zE,zF,zG,zH,zI,zJ]); rw [hKn];clear hKn Kn;simp only [QV,reduceIte,reduceCtorEq,Nat.reduceEqDiff])
 ((repeat refine Ws ?_);refine W_block ?_; (repeat refine Ws ?_)); refine W_loopS (fun i : Nat => [(7, .sf 1 [[.sl 1 [[.int .i64 40], [.int .i64 0]]], [.sl 1 [[.int .i64 50], [.int .i64 0]]], [.sl 1 [[.int .i64 0], [.int .i64 50]]]]), (8, .sf 1 [[.sl 0 []], [.sl 0 []], [.sl 1 [[.int .i64 2]]]]), (9, .sf 1 [[.int .i64 2], [.int .i64 3], [.int .i64 6]]), (10, vi i)]) (fun _ => ⟨M.H ++ L, M.lg ++ YY⟩) (fun i => 3 - i) (fun i => i ≤ 3) 0 (by omega) ⟨rfl, rfl, rfl, rfl, trivial⟩ rfl ?_
 intro i hi
 obtain rfl | rfl | rfl | rfl : i = 0 ∨ i = 1 ∨ i = 2 ∨ i = 3 := by omega
 ·have k1 : -9223372036854775808 ≤ ((0 : Nat) : Int) + 1 ∧ ((0 : Nat) : Int) + 1 < 9223372036854775808 := by decide
  ((repeat refine Ws ?_);refine W_regionE T_ok ?_; intro Kn hKn)
  ((simp (maxSteps := 1000000) only [VL,VM,↓VG,reduceIte,reduceCtorEq,zA,zB,zC,zD,zE,zF,zG,zH,zI,zJ]); rw [hKn];clear hKn Kn;simp only [QV,reduceIte,reduceCtorEq,Nat.reduceEqDiff])
  ((repeat refine Ws ?_);refine Wt (by first|rfl|simp only [EV,zF,reduceIte]) ?_)
  (((repeat refine Ws ?_);refine W_skip ?_); simp only [QV,reduceIte,reduceCtorEq,Nat.reduceEqDiff])
  ((repeat refine Ws ?_);refine W_block ?_)
  (repeat refine Ws ?_)
  refine W_drawE T_ok [] (by kernel_rfl) (by kernel_rfl) ?_
  intro Kn hKn
  generalize hi : mkPlan _ = infs
  cbv at hi
  subst hi
  simp (maxSteps := 1000000) only [VL,VM,↓VG,reduceIte,reduceCtorEq,zA,zB,zC,zD,zE,zF,zG,zH,zI,zJ]
  apply call_d (f := 4) (fn := Tryd.f4) (by kernel_rfl) (by rfl)
  ·exact house_v _
  simp (maxSteps := 1000000) only [VL,VM,↓VG,reduceIte,reduceCtorEq,zA,zB,zC,zD,zE,zF,zG,zH,zI,zJ]
  apply call_d (f := 9) (fn := Tryd.f9) (by kernel_rfl) (by rfl)
  ·exact VC_nil0 (us := [houseV hH, intsV [40, 0]]) (k := 1) (vs := []) (Leave_v hH [40, 0] [] _ (by decide) (by decide) (by decide) (by decide) (by decide))
  rw [hH_leave_a]
  ((simp (maxSteps := 1000000) only [VL,VM,↓VG,reduceIte,reduceCtorEq,zA,zB,zC,zD,zE,zF,zG,zH,zI,zJ]); rw [hKn];clear hKn Kn;simp only [QV,reduceIte,reduceCtorEq,Nat.reduceEqDiff])
  ((repeat refine Ws ?_);refine W_regionE T_ok ?_; intro Kn hKn)
  ((simp (maxSteps := 1000000) only [VL,VM,↓VG,reduceIte,reduceCtorEq,zA,zB,zC,zD,zE,zF,zG,zH,zI,zJ]); rw [hKn];clear hKn Kn;simp only [QV,reduceIte,reduceCtorEq,Nat.reduceEqDiff])
  ((repeat refine Ws ?_);refine Wf (by first|rfl|simp only [EV,zF,reduceIte]) ?_)
  (((repeat refine Ws ?_);refine W_skip ?_); simp only [QV,reduceIte,reduceCtorEq,Nat.reduceEqDiff])
  ((repeat refine Ws ?_);refine W_regionE T_ok ?_; intro Kn hKn)
  ((simp (maxSteps := 1000000) only [VL,VM,↓VG,reduceIte,reduceCtorEq,zA,zB,zC,zD,zE,zF,zG,zH,zI,zJ, k1]); rw [hKn];clear hKn Kn;simp only [QV,reduceIte,reduceCtorEq,Nat.reduceEqDiff])
  refine LoopK.mk 1 (by omega) (by omega) ⟨rfl, rfl, rfl, rfl, trivial⟩ rfl
 ·have k1 : -9223372036854775808 ≤ ((1 : Nat) : Int) + 1 ∧ ((1 : Nat) : Int) + 1 < 9223372036854775808 := by decide
  ((repeat refine Ws ?_);refine W_regionE T_ok ?_; intro Kn hKn)
  ((simp (maxSteps := 1000000) only [VL,VM,↓VG,reduceIte,reduceCtorEq,zA,zB,zC,zD,zE,zF,zG,zH,zI,zJ]); rw [hKn];clear hKn Kn;simp only [QV,reduceIte,reduceCtorEq,Nat.reduceEqDiff])
  ((repeat refine Ws ?_);refine Wt (by first|rfl|simp only [EV,zF,reduceIte]) ?_)
  (((repeat refine Ws ?_);refine W_skip ?_); simp only [QV,reduceIte,reduceCtorEq,Nat.reduceEqDiff])
  ((repeat refine Ws ?_);refine W_block ?_)
  (repeat refine Ws ?_)
  refine W_drawE T_ok [] (by kernel_rfl) (by kernel_rfl) ?_
  intro Kn hKn
  generalize hi : mkPlan _ = infs
  cbv at hi
  subst hi
  simp (maxSteps := 1000000) only [VL,VM,↓VG,reduceIte,reduceCtorEq,zA,zB,zC,zD,zE,zF,zG,zH,zI,zJ]
  apply call_d (f := 4) (fn := Tryd.f4) (by kernel_rfl) (by rfl)
  ·exact house_v _
  simp (maxSteps := 1000000) only [VL,VM,↓VG,reduceIte,reduceCtorEq,zA,zB,zC,zD,zE,zF,zG,zH,zI,zJ]
  apply call_d (f := 9) (fn := Tryd.f9) (by kernel_rfl) (by rfl)
  ·exact VC_nil0 (us := [houseV hH, intsV [50, 0]]) (k := 1) (vs := []) (Leave_v hH [50, 0] [] _ (by decide) (by decide) (by decide) (by decide) (by decide))
  rw [hH_leave_b]
  ((simp (maxSteps := 1000000) only [VL,VM,↓VG,reduceIte,reduceCtorEq,zA,zB,zC,zD,zE,zF,zG,zH,zI,zJ]); rw [hKn];clear hKn Kn;simp only [QV,reduceIte,reduceCtorEq,Nat.reduceEqDiff])
  ((repeat refine Ws ?_);refine W_regionE T_ok ?_; intro Kn hKn)
  ((simp (maxSteps := 1000000) only [VL,VM,↓VG,reduceIte,reduceCtorEq,zA,zB,zC,zD,zE,zF,zG,zH,zI,zJ]); rw [hKn];clear hKn Kn;simp only [QV,reduceIte,reduceCtorEq,Nat.reduceEqDiff])
  ((repeat refine Ws ?_);refine Wf (by first|rfl|simp only [EV,zF,reduceIte]) ?_)
  (((repeat refine Ws ?_);refine W_skip ?_); simp only [QV,reduceIte,reduceCtorEq,Nat.reduceEqDiff])
  ((repeat refine Ws ?_);refine W_regionE T_ok ?_; intro Kn hKn)
  ((simp (maxSteps := 1000000) only [VL,VM,↓VG,reduceIte,reduceCtorEq,zA,zB,zC,zD,zE,zF,zG,zH,zI,zJ, k1]); rw [hKn];clear hKn Kn;simp only [QV,reduceIte,reduceCtorEq,Nat.reduceEqDiff])
  refine LoopK.mk 2 (by omega) (by omega) ⟨rfl, rfl, rfl, rfl, trivial⟩ rfl
 ·have k1 : -9223372036854775808 ≤ ((2 : Nat) : Int) + 1 ∧ ((2 : Nat) : Int) + 1 < 9223372036854775808 := by decide
  ((repeat refine Ws ?_);refine W_regionE T_ok ?_; intro Kn hKn)
  ((simp (maxSteps := 1000000) only [VL,VM,↓VG,reduceIte,reduceCtorEq,zA,zB,zC,zD,zE,zF,zG,zH,zI,zJ]); rw [hKn];clear hKn Kn;simp only [QV,reduceIte,reduceCtorEq,Nat.reduceEqDiff])
  ((repeat refine Ws ?_);refine Wt (by first|rfl|simp only [EV,zF,reduceIte]) ?_)
  (((repeat refine Ws ?_);refine W_skip ?_); simp only [QV,reduceIte,reduceCtorEq,Nat.reduceEqDiff])
  ((repeat refine Ws ?_);refine W_block ?_)
  (repeat refine Ws ?_)
  refine W_drawE T_ok [] (by kernel_rfl) (by kernel_rfl) ?_
  intro Kn hKn
  generalize hi : mkPlan _ = infs
  cbv at hi
  subst hi
  simp (maxSteps := 1000000) only [VL,VM,↓VG,reduceIte,reduceCtorEq,zA,zB,zC,zD,zE,zF,zG,zH,zI,zJ]
  apply call_d (f := 4) (fn := Tryd.f4) (by kernel_rfl) (by rfl)
  ·exact house_v _
  simp (maxSteps := 1000000) only [VL,VM,↓VG,reduceIte,reduceCtorEq,zA,zB,zC,zD,zE,zF,zG,zH,zI,zJ]
  apply call_d (f := 9) (fn := Tryd.f9) (by kernel_rfl) (by rfl)
  ·exact Leave_v hH [0, 50] [2] _ (by decide) (by decide) (by decide) (by decide) (by decide)
  rw [hH_leave_c]
  ((simp (maxSteps := 1000000) only [VL,VM,↓VG,reduceIte,reduceCtorEq,zA,zB,zC,zD,zE,zF,zG,zH,zI,zJ]); rw [hKn];clear hKn Kn;simp only [QV,reduceIte,reduceCtorEq,Nat.reduceEqDiff])
  ((repeat refine Ws ?_);refine W_regionE T_ok ?_; intro Kn hKn)
  ((simp (maxSteps := 1000000) only [VL,VM,↓VG,reduceIte,reduceCtorEq,zA,zB,zC,zD,zE,zF,zG,zH,zI,zJ]); rw [hKn];clear hKn Kn;simp only [QV,reduceIte,reduceCtorEq,Nat.reduceEqDiff])
  ((repeat refine Ws ?_);refine Wf (by first|rfl|simp only [EV,zF,reduceIte]) ?_)
  (((repeat refine Ws ?_);refine W_skip ?_); simp only [QV,reduceIte,reduceCtorEq,Nat.reduceEqDiff])
  ((repeat refine Ws ?_);refine W_regionE T_ok ?_; intro Kn hKn)
  ((simp (maxSteps := 1000000) only [VL,VM,↓VG,reduceIte,reduceCtorEq,zA,zB,zC,zD,zE,zF,zG,zH,zI,zJ, k1]); rw [hKn];clear hKn Kn;simp only [QV,reduceIte,reduceCtorEq,Nat.reduceEqDiff])
  refine LoopK.mk 3 (by omega) (by omega) ⟨rfl, rfl, rfl, rfl, trivial⟩ rfl
 ((repeat refine Ws ?_);refine W_regionE T_ok ?_; intro Kn hKn)
 ((simp (maxSteps := 1000000) only [VL,VM,↓VG,reduceIte,reduceCtorEq,zA,zB,zC,zD,zE,zF,zG,zH,zI,zJ]); rw [hKn];clear hKn Kn;simp only [QV,reduceIte,reduceCtorEq,Nat.reduceEqDiff])
 ((repeat refine Ws ?_);refine Wf (by first|rfl|simp only [EV,zF,reduceIte]) ?_)
 (((repeat refine Ws ?_);refine W_exit ?_); simp only [QV,reduceIte,reduceCtorEq,Nat.reduceEqDiff])
 ((repeat refine Ws ?_);refine W_regionE T_ok ?_; intro Kn hKn)
 simp (maxSteps := 1000000) only [VL,VM,↓VG,reduceIte,reduceCtorEq,zA,zB,zC,zD,zE,zF,zG,zH,zI,zJ]
 apply call_eq (f := 4) (fn := Tryd.f4) (by kernel_rfl) (by rfl)
 ·exact house_v _
 simp (maxSteps := 1000000) only [VL,VM,↓VG,reduceIte,reduceCtorEq,zA,zB,zC,zD,zE,zF,zG,zH,zI,zJ]
 apply call_eq (f := 9) (fn := Tryd.f9) (by kernel_rfl) (by rfl)
 ·exact Leave_v hH [0, 1] [1, 2] _ (by decide) (by decide) (by decide) (by decide) (by decide)
 rw [hH_leave_d]
 ((simp (maxSteps := 1000000) only [VL,VM,↓VG,reduceIte,reduceCtorEq,zA,zB,zC,zD,zE,zF,zG,zH,zI,zJ]); rw [hKn];clear hKn Kn;simp only [QV,reduceIte,reduceCtorEq,Nat.reduceEqDiff])
 ((repeat refine Ws ?_);refine W_regionE T_ok ?_; intro Kn hKn)
 ((simp (maxSteps := 1000000) only [VL,VM,↓VG,reduceIte,reduceCtorEq,zA,zB,zC,zD,zE,zF,zG,zH,zI,zJ]); rw [hKn];clear hKn Kn;simp only [QV,reduceIte,reduceCtorEq,Nat.reduceEqDiff])
 ((repeat refine Ws ?_);refine Wf (by first|rfl|simp only [EV,zF,reduceIte]) ?_)
 (((repeat refine Ws ?_);refine W_skip ?_); simp only [QV,reduceIte,reduceCtorEq,Nat.reduceEqDiff])
 ((repeat refine Ws ?_);refine W_regionE T_ok ?_; intro Kn hKn)
 ((simp (maxSteps := 1000000) only [VL,VM,↓VG,reduceIte,reduceCtorEq,zA,zB,zC,zD,zE,zF,zG,zH,zI,zJ]); rw [hKn];clear hKn Kn;simp only [QV,reduceIte,reduceCtorEq,Nat.reduceEqDiff])
 ((repeat refine Ws ?_);refine W_regionE T_ok ?_; intro Kn hKn)
 ((simp (maxSteps := 1000000) only [VL,VM,↓VG,reduceIte,reduceCtorEq,zA,zB,zC,zD,zE,zF,zG,zH,zI,zJ]); rw [hKn];clear hKn Kn;simp only [QV,reduceIte,reduceCtorEq,Nat.reduceEqDiff])
 ((repeat refine Ws ?_);refine W_block ?_; (repeat refine Ws ?_)); refine W_loopS (fun i : Nat => [(15, .sf 1 [[.int .i64 0], [.int .i64 5], [.int .i64 20], [.int .i64 35], [.int .i64 95]]), (16, vi i)]) (fun _ => ⟨M.H ++ L, M.lg ++ YY⟩) (fun i => 5 - i) (fun i => i ≤ 5) 0 (by omega) ⟨rfl, rfl, trivial⟩ rfl ?_
 intro i hi
 obtain rfl | rfl | rfl | rfl | rfl | rfl : i = 0 ∨ i = 1 ∨ i = 2 ∨ i = 3 ∨ i = 4 ∨ i = 5 := by omega
 ·have k1 : -9223372036854775808 ≤ ((0 : Nat) : Int) + 1 ∧ ((0 : Nat) : Int) + 1 < 9223372036854775808 := by decide
  ((repeat refine Ws ?_);refine W_regionE T_ok ?_; intro Kn hKn)
  ((simp (maxSteps := 1000000) only [VL,VM,↓VG,reduceIte,reduceCtorEq,zA,zB,zC,zD,zE,zF,zG,zH,zI,zJ]); rw [hKn];clear hKn Kn;simp only [QV,reduceIte,reduceCtorEq,Nat.reduceEqDiff])
  ((repeat refine Ws ?_);refine Wt (by first|rfl|simp only [EV,zF,reduceIte]) ?_)
  (((repeat refine Ws ?_);refine W_skip ?_); simp only [QV,reduceIte,reduceCtorEq,Nat.reduceEqDiff])
  ((repeat refine Ws ?_);refine W_block ?_)
  ((repeat refine Ws ?_);refine W_regionE T_ok ?_; intro Kn hKn)
  simp (maxSteps := 1000000) only [VL,VM,↓VG,reduceIte,reduceCtorEq,zA,zB,zC,zD,zE,zF,zG,zH,zI,zJ]
  apply call_eq (f := 4) (fn := Tryd.f4) (by kernel_rfl) (by rfl)
  ·exact house_v _
  simp (maxSteps := 1000000) only [VL,VM,↓VG,reduceIte,reduceCtorEq,zA,zB,zC,zD,zE,zF,zG,zH,zI,zJ]
  apply call_eq (f := 10) (fn := Tryd.f10) (by kernel_rfl) (by rfl)
  ·exact VC_nil0 (us := [houseV hH, vi 0]) (k := 1) (vs := []) (Admit_v hH 0 [] _ (by decide) (by decide) (by decide) (by decide))
  rw [hH_admit0]
  ((simp (maxSteps := 1000000) only [VL,VM,↓VG,reduceIte,reduceCtorEq,zA,zB,zC,zD,zE,zF,zG,zH,zI,zJ]); rw [hKn];clear hKn Kn;simp only [QV,reduceIte,reduceCtorEq,Nat.reduceEqDiff])
  ((repeat refine Ws ?_);refine W_regionE T_ok ?_; intro Kn hKn)
  ((simp (maxSteps := 1000000) only [VL,VM,↓VG,reduceIte,reduceCtorEq,zA,zB,zC,zD,zE,zF,zG,zH,zI,zJ]); rw [hKn];clear hKn Kn;simp only [QV,reduceIte,reduceCtorEq,Nat.reduceEqDiff])
  ((repeat refine Ws ?_);refine Wf (by first|rfl|simp only [EV,zF,reduceIte]) ?_)
  (((repeat refine Ws ?_);refine W_skip ?_); simp only [QV,reduceIte,reduceCtorEq,Nat.reduceEqDiff])
  ((repeat refine Ws ?_);refine W_regionE T_ok ?_; intro Kn hKn)
  ((simp (maxSteps := 1000000) only [VL,VM,↓VG,reduceIte,reduceCtorEq,zA,zB,zC,zD,zE,zF,zG,zH,zI,zJ, k1]); rw [hKn];clear hKn Kn;simp only [QV,reduceIte,reduceCtorEq,Nat.reduceEqDiff])
  refine LoopK.mk 1 (by omega) (by omega) ⟨rfl, rfl, trivial⟩ rfl
 ·have k1 : -9223372036854775808 ≤ ((1 : Nat) : Int) + 1 ∧ ((1 : Nat) : Int) + 1 < 9223372036854775808 := by decide
  ((repeat refine Ws ?_);refine W_regionE T_ok ?_; intro Kn hKn)
  ((simp (maxSteps := 1000000) only [VL,VM,↓VG,reduceIte,reduceCtorEq,zA,zB,zC,zD,zE,zF,zG,zH,zI,zJ]); rw [hKn];clear hKn Kn;simp only [QV,reduceIte,reduceCtorEq,Nat.reduceEqDiff])
  ((repeat refine Ws ?_);refine Wt (by first|rfl|simp only [EV,zF,reduceIte]) ?_)
  (((repeat refine Ws ?_);refine W_skip ?_); simp only [QV,reduceIte,reduceCtorEq,Nat.reduceEqDiff])
  ((repeat refine Ws ?_);refine W_block ?_)
  ((repeat refine Ws ?_);refine W_regionE T_ok ?_; intro Kn hKn)
  simp (maxSteps := 1000000) only [VL,VM,↓VG,reduceIte,reduceCtorEq,zA,zB,zC,zD,zE,zF,zG,zH,zI,zJ]
  apply call_eq (f := 4) (fn := Tryd.f4) (by kernel_rfl) (by rfl)
  ·exact house_v _
  simp (maxSteps := 1000000) only [VL,VM,↓VG,reduceIte,reduceCtorEq,zA,zB,zC,zD,zE,zF,zG,zH,zI,zJ]
  apply call_eq (f := 10) (fn := Tryd.f10) (by kernel_rfl) (by rfl)
  ·exact VC_nil0 (us := [houseV hH, vi 1]) (k := 1) (vs := []) (Admit_v hH 1 [] _ (by decide) (by decide) (by decide) (by decide))
  rw [hH_admit1]
  ((simp (maxSteps := 1000000) only [VL,VM,↓VG,reduceIte,reduceCtorEq,zA,zB,zC,zD,zE,zF,zG,zH,zI,zJ]); rw [hKn];clear hKn Kn;simp only [QV,reduceIte,reduceCtorEq,Nat.reduceEqDiff])
  ((repeat refine Ws ?_);refine W_regionE T_ok ?_; intro Kn hKn)
  ((simp (maxSteps := 1000000) only [VL,VM,↓VG,reduceIte,reduceCtorEq,zA,zB,zC,zD,zE,zF,zG,zH,zI,zJ]); rw [hKn];clear hKn Kn;simp only [QV,reduceIte,reduceCtorEq,Nat.reduceEqDiff])
  ((repeat refine Ws ?_);refine Wf (by first|rfl|simp only [EV,zF,reduceIte]) ?_)
  (((repeat refine Ws ?_);refine W_skip ?_); simp only [QV,reduceIte,reduceCtorEq,Nat.reduceEqDiff])
  ((repeat refine Ws ?_);refine W_regionE T_ok ?_; intro Kn hKn)
  ((simp (maxSteps := 1000000) only [VL,VM,↓VG,reduceIte,reduceCtorEq,zA,zB,zC,zD,zE,zF,zG,zH,zI,zJ, k1]); rw [hKn];clear hKn Kn;simp only [QV,reduceIte,reduceCtorEq,Nat.reduceEqDiff])
  refine LoopK.mk 2 (by omega) (by omega) ⟨rfl, rfl, trivial⟩ rfl
 ·have k1 : -9223372036854775808 ≤ ((2 : Nat) : Int) + 1 ∧ ((2 : Nat) : Int) + 1 < 9223372036854775808 := by decide
  ((repeat refine Ws ?_);refine W_regionE T_ok ?_; intro Kn hKn)
  ((simp (maxSteps := 1000000) only [VL,VM,↓VG,reduceIte,reduceCtorEq,zA,zB,zC,zD,zE,zF,zG,zH,zI,zJ]); rw [hKn];clear hKn Kn;simp only [QV,reduceIte,reduceCtorEq,Nat.reduceEqDiff])
  ((repeat refine Ws ?_);refine Wt (by first|rfl|simp only [EV,zF,reduceIte]) ?_)
  (((repeat refine Ws ?_);refine W_skip ?_); simp only [QV,reduceIte,reduceCtorEq,Nat.reduceEqDiff])
  ((repeat refine Ws ?_);refine W_block ?_)
  ((repeat refine Ws ?_);refine W_regionE T_ok ?_; intro Kn hKn)
  simp (maxSteps := 1000000) only [VL,VM,↓VG,reduceIte,reduceCtorEq,zA,zB,zC,zD,zE,zF,zG,zH,zI,zJ]
  apply call_eq (f := 4) (fn := Tryd.f4) (by kernel_rfl) (by rfl)
  ·exact house_v _
  simp (maxSteps := 1000000) only [VL,VM,↓VG,reduceIte,reduceCtorEq,zA,zB,zC,zD,zE,zF,zG,zH,zI,zJ]
  apply call_eq (f := 10) (fn := Tryd.f10) (by kernel_rfl) (by rfl)
  ·exact VC_nil0 (us := [houseV hH, vi 2]) (k := 1) (vs := []) (Admit_v hH 2 [] _ (by decide) (by decide) (by decide) (by decide))
  rw [hH_admit2]
  ((simp (maxSteps := 1000000) only [VL,VM,↓VG,reduceIte,reduceCtorEq,zA,zB,zC,zD,zE,zF,zG,zH,zI,zJ]); rw [hKn];clear hKn Kn;simp only [QV,reduceIte,reduceCtorEq,Nat.reduceEqDiff])
  ((repeat refine Ws ?_);refine W_regionE T_ok ?_; intro Kn hKn)
  ((simp (maxSteps := 1000000) only [VL,VM,↓VG,reduceIte,reduceCtorEq,zA,zB,zC,zD,zE,zF,zG,zH,zI,zJ]); rw [hKn];clear hKn Kn;simp only [QV,reduceIte,reduceCtorEq,Nat.reduceEqDiff])
  ((repeat refine Ws ?_);refine Wf (by first|rfl|simp only [EV,zF,reduceIte]) ?_)
  (((repeat refine Ws ?_);refine W_skip ?_); simp only [QV,reduceIte,reduceCtorEq,Nat.reduceEqDiff])
  ((repeat refine Ws ?_);refine W_regionE T_ok ?_; intro Kn hKn)
  ((simp (maxSteps := 1000000) only [VL,VM,↓VG,reduceIte,reduceCtorEq,zA,zB,zC,zD,zE,zF,zG,zH,zI,zJ, k1]); rw [hKn];clear hKn Kn;simp only [QV,reduceIte,reduceCtorEq,Nat.reduceEqDiff])
  refine LoopK.mk 3 (by omega) (by omega) ⟨rfl, rfl, trivial⟩ rfl
 ·have k1 : -9223372036854775808 ≤ ((3 : Nat) : Int) + 1 ∧ ((3 : Nat) : Int) + 1 < 9223372036854775808 := by decide
  ((repeat refine Ws ?_);refine W_regionE T_ok ?_; intro Kn hKn)
  ((simp (maxSteps := 1000000) only [VL,VM,↓VG,reduceIte,reduceCtorEq,zA,zB,zC,zD,zE,zF,zG,zH,zI,zJ]); rw [hKn];clear hKn Kn;simp only [QV,reduceIte,reduceCtorEq,Nat.reduceEqDiff])
  ((repeat refine Ws ?_);refine Wt (by first|rfl|simp only [EV,zF,reduceIte]) ?_)
  (((repeat refine Ws ?_);refine W_skip ?_); simp only [QV,reduceIte,reduceCtorEq,Nat.reduceEqDiff])
  ((repeat refine Ws ?_);refine W_block ?_)
  ((repeat refine Ws ?_);refine W_regionE T_ok ?_; intro Kn hKn)
  simp (maxSteps := 1000000) only [VL,VM,↓VG,reduceIte,reduceCtorEq,zA,zB,zC,zD,zE,zF,zG,zH,zI,zJ]
  apply call_eq (f := 4) (fn := Tryd.f4) (by kernel_rfl) (by rfl)
  ·exact house_v _
  simp (maxSteps := 1000000) only [VL,VM,↓VG,reduceIte,reduceCtorEq,zA,zB,zC,zD,zE,zF,zG,zH,zI,zJ]
  apply call_eq (f := 10) (fn := Tryd.f10) (by kernel_rfl) (by rfl)
  ·exact VC_nil0 (us := [houseV hH, vi 3]) (k := 1) (vs := []) (Admit_v hH 3 [] _ (by decide) (by decide) (by decide) (by decide))
  rw [hH_admit3]
  ((simp (maxSteps := 1000000) only [VL,VM,↓VG,reduceIte,reduceCtorEq,zA,zB,zC,zD,zE,zF,zG,zH,zI,zJ]); rw [hKn];clear hKn Kn;simp only [QV,reduceIte,reduceCtorEq,Nat.reduceEqDiff])
  ((repeat refine Ws ?_);refine W_regionE T_ok ?_; intro Kn hKn)
  ((simp (maxSteps := 1000000) only [VL,VM,↓VG,reduceIte,reduceCtorEq,zA,zB,zC,zD,zE,zF,zG,zH,zI,zJ]); rw [hKn];clear hKn Kn;simp only [QV,reduceIte,reduceCtorEq,Nat.reduceEqDiff])
  ((repeat refine Ws ?_);refine Wf (by first|rfl|simp only [EV,zF,reduceIte]) ?_)
  (((repeat refine Ws ?_);refine W_skip ?_); simp only [QV,reduceIte,reduceCtorEq,Nat.reduceEqDiff])
  ((repeat refine Ws ?_);refine W_regionE T_ok ?_; intro Kn hKn)
  ((simp (maxSteps := 1000000) only [VL,VM,↓VG,reduceIte,reduceCtorEq,zA,zB,zC,zD,zE,zF,zG,zH,zI,zJ, k1]); rw [hKn];clear hKn Kn;simp only [QV,reduceIte,reduceCtorEq,Nat.reduceEqDiff])
  refine LoopK.mk 4 (by omega) (by omega) ⟨rfl, rfl, trivial⟩ rfl
 ·have k1 : -9223372036854775808 ≤ ((4 : Nat) : Int) + 1 ∧ ((4 : Nat) : Int) + 1 < 9223372036854775808 := by decide
  ((repeat refine Ws ?_);refine W_regionE T_ok ?_; intro Kn hKn)
  ((simp (maxSteps := 1000000) only [VL,VM,↓VG,reduceIte,reduceCtorEq,zA,zB,zC,zD,zE,zF,zG,zH,zI,zJ]); rw [hKn];clear hKn Kn;simp only [QV,reduceIte,reduceCtorEq,Nat.reduceEqDiff])
  ((repeat refine Ws ?_);refine Wt (by first|rfl|simp only [EV,zF,reduceIte]) ?_)
  (((repeat refine Ws ?_);refine W_skip ?_); simp only [QV,reduceIte,reduceCtorEq,Nat.reduceEqDiff])
  ((repeat refine Ws ?_);refine W_block ?_)
  ((repeat refine Ws ?_);refine W_regionE T_ok ?_; intro Kn hKn)
  simp (maxSteps := 1000000) only [VL,VM,↓VG,reduceIte,reduceCtorEq,zA,zB,zC,zD,zE,zF,zG,zH,zI,zJ]
  apply call_eq (f := 4) (fn := Tryd.f4) (by kernel_rfl) (by rfl)
  ·exact house_v _
  simp (maxSteps := 1000000) only [VL,VM,↓VG,reduceIte,reduceCtorEq,zA,zB,zC,zD,zE,zF,zG,zH,zI,zJ]
  apply call_eq (f := 10) (fn := Tryd.f10) (by kernel_rfl) (by rfl)
  ·exact VC_nil0 (us := [houseV hH, vi 4]) (k := 1) (vs := []) (Admit_v hH 4 [] _ (by decide) (by decide) (by decide) (by decide))
  rw [hH_admit4]
  ((simp (maxSteps := 1000000) only [VL,VM,↓VG,reduceIte,reduceCtorEq,zA,zB,zC,zD,zE,zF,zG,zH,zI,zJ]); rw [hKn];clear hKn Kn;simp only [QV,reduceIte,reduceCtorEq,Nat.reduceEqDiff])
  ((repeat refine Ws ?_);refine W_regionE T_ok ?_; intro Kn hKn)
  ((simp (maxSteps := 1000000) only [VL,VM,↓VG,reduceIte,reduceCtorEq,zA,zB,zC,zD,zE,zF,zG,zH,zI,zJ]); rw [hKn];clear hKn Kn;simp only [QV,reduceIte,reduceCtorEq,Nat.reduceEqDiff])
  ((repeat refine Ws ?_);refine Wf (by first|rfl|simp only [EV,zF,reduceIte]) ?_)
  (((repeat refine Ws ?_);refine W_skip ?_); simp only [QV,reduceIte,reduceCtorEq,Nat.reduceEqDiff])
  ((repeat refine Ws ?_);refine W_regionE T_ok ?_; intro Kn hKn)
  ((simp (maxSteps := 1000000) only [VL,VM,↓VG,reduceIte,reduceCtorEq,zA,zB,zC,zD,zE,zF,zG,zH,zI,zJ, k1]); rw [hKn];clear hKn Kn;simp only [QV,reduceIte,reduceCtorEq,Nat.reduceEqDiff])
  refine LoopK.mk 5 (by omega) (by omega) ⟨rfl, rfl, trivial⟩ rfl
 ((repeat refine Ws ?_);refine W_regionE T_ok ?_; intro Kn hKn)
 ((simp (maxSteps := 1000000) only [VL,VM,↓VG,reduceIte,reduceCtorEq,zA,zB,zC,zD,zE,zF,zG,zH,zI,zJ]); rw [hKn];clear hKn Kn;simp only [QV,reduceIte,reduceCtorEq,Nat.reduceEqDiff])
 ((repeat refine Ws ?_);refine Wf (by first|rfl|simp only [EV,zF,reduceIte]) ?_)
 (((repeat refine Ws ?_);refine W_exit ?_); simp only [QV,reduceIte,reduceCtorEq,Nat.reduceEqDiff])
 ((repeat refine Ws ?_);refine W_regionE T_ok ?_; intro Kn hKn)
 simp (maxSteps := 1000000) only [VL,VM,↓VG,reduceIte,reduceCtorEq,zA,zB,zC,zD,zE,zF,zG,zH,zI,zJ]
 apply call_eq (f := 4) (fn := Tryd.f4) (by kernel_rfl) (by rfl)
 ·exact house_v _
 simp (maxSteps := 1000000) only [VL,VM,↓VG,reduceIte,reduceCtorEq,zA,zB,zC,zD,zE,zF,zG,zH,zI,zJ]
 apply call_eq (f := 11) (fn := Tryd.f11) (by kernel_rfl) (by rfl)
 ·exact VC_nil0 (us := [houseV hH, vi 1, vi 3]) (k := 1) (vs := []) (Safe_v hH 1 3 [] _ (by decide) (by decide) (by decide) (by decide))
 rw [hH_safe13]
 ((simp (maxSteps := 1000000) only [VL,VM,↓VG,reduceIte,reduceCtorEq,zA,zB,zC,zD,zE,zF,zG,zH,zI,zJ]); rw [hKn];clear hKn Kn;simp only [QV,reduceIte,reduceCtorEq,Nat.reduceEqDiff])
 ((repeat refine Ws ?_);refine W_regionE T_ok ?_; intro Kn hKn)
 simp (maxSteps := 1000000) only [VL,VM,↓VG,reduceIte,reduceCtorEq,zA,zB,zC,zD,zE,zF,zG,zH,zI,zJ]
 apply call_eq (f := 4) (fn := Tryd.f4) (by kernel_rfl) (by rfl)
 ·exact house_v _
 simp (maxSteps := 1000000) only [VL,VM,↓VG,reduceIte,reduceCtorEq,zA,zB,zC,zD,zE,zF,zG,zH,zI,zJ]
 apply call_eq (f := 11) (fn := Tryd.f11) (by kernel_rfl) (by rfl)
 ·exact VC_nil0 (us := [houseV hH, vi 2, vi 3]) (k := 1) (vs := []) (Safe_v hH 2 3 [] _ (by decide) (by decide) (by decide) (by decide))
 rw [hH_safe23]
 ((simp (maxSteps := 1000000) only [VL,VM,↓VG,reduceIte,reduceCtorEq,zA,zB,zC,zD,zE,zF,zG,zH,zI,zJ]); rw [hKn];clear hKn Kn;simp only [QV,reduceIte,reduceCtorEq,Nat.reduceEqDiff])
 ((repeat refine Ws ?_);refine W_regionE T_ok ?_; intro Kn hKn)
 simp (maxSteps := 1000000) only [VL,VM,↓VG,reduceIte,reduceCtorEq,zA,zB,zC,zD,zE,zF,zG,zH,zI,zJ]
 apply call_eq (f := 4) (fn := Tryd.f4) (by kernel_rfl) (by rfl)
 ·exact house_v _
 simp (maxSteps := 1000000) only [VL,VM,↓VG,reduceIte,reduceCtorEq,zA,zB,zC,zD,zE,zF,zG,zH,zI,zJ]
 apply call_eq (f := 11) (fn := Tryd.f11) (by kernel_rfl) (by rfl)
 ·exact VC_nil0 (us := [houseV hH, vi 1, vi 2]) (k := 1) (vs := []) (Safe_v hH 1 2 [] _ (by decide) (by decide) (by decide) (by decide))
 rw [hH_safe12]
 ((simp (maxSteps := 1000000) only [VL,VM,↓VG,reduceIte,reduceCtorEq,zA,zB,zC,zD,zE,zF,zG,zH,zI,zJ]); rw [hKn];clear hKn Kn;simp only [QV,reduceIte,reduceCtorEq,Nat.reduceEqDiff])
 ((repeat refine Ws ?_);refine W_regionE T_ok ?_; intro Kn hKn)
 simp (maxSteps := 1000000) only [VL,VM,↓VG,reduceIte,reduceCtorEq,zA,zB,zC,zD,zE,zF,zG,zH,zI,zJ]
 apply call_eq (f := 4) (fn := Tryd.f4) (by kernel_rfl) (by rfl)
 ·exact house_v _
 simp (maxSteps := 1000000) only [VL,VM,↓VG,reduceIte,reduceCtorEq,zA,zB,zC,zD,zE,zF,zG,zH,zI,zJ]
 apply call_eq (f := 12) (fn := Tryd.f12) (by kernel_rfl) (by rfl)
 ·exact pwrite_v hH _ ⟨by decide, by decide, by decide⟩
 rw [hH_writeT, hH_err]
 ((simp (maxSteps := 1000000) only [VL,VM,↓VG,reduceIte,reduceCtorEq,zA,zB,zC,zD,zE,zF,zG,zH,zI,zJ]); rw [hKn];clear hKn Kn;simp only [QV,reduceIte,reduceCtorEq,Nat.reduceEqDiff])
 ((repeat refine Ws ?_);refine W_regionE T_ok ?_; intro Kn hKn)
 ((simp (maxSteps := 1000000) only [VL,VM,↓VG,reduceIte,reduceCtorEq,zA,zB,zC,zD,zE,zF,zG,zH,zI,zJ, litT]); rw [hKn];clear hKn Kn;simp only [QV,reduceIte,reduceCtorEq,Nat.reduceEqDiff])
 (repeat refine Ws ?_)
 refine W_ret ?_
 try simp only [thenQ, blockQ]
 refine own_retY hY rfl ?_ (by rfl)
 simp only [get_cons, frz, vtup, Nat.reduceEqDiff, if_true, if_false, reduceIte]
end Go.Proofs.YtekhddlngbppkaaDoor.Vm
