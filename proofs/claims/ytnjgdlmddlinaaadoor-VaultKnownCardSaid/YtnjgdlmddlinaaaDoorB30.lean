/- A part of the proofs about the chapter of the vaults; it states no condition of its own. -/
import Derived.Test.YtnjgdlmddlinaaaDoorB29
set_option linter.unusedVariables false
set_option linter.unusedSimpArgs false
open Int renaming reduceLE → zA, reduceLT → zB, reduceToNat → zC, reduceNeg → zD
open Nat renaming reduceLT → zE, reduceEqDiff → zF, reduceAdd → zG, reduceSub → zH, reduceMul → zI, reduceLeDiff → zJ
/- The law of the vaults' examples. (Vm) -/
namespace Go.Proofs.YtnjgdlmddlinaaaDoor.Vm
open Go Go.Proofs
theorem t_errnos : T.ty 39 = some ⟨.slice 31 1 8, 1, [.slice none 0 0], false, false⟩ := by kernel_rfl
theorem addLg_no1 {id r : Nat} {lg : List (Nat × Nat)} (h : r ≤ id) : addLg id [r] lg = lg := by
 unfold addLg
 have hb : Nat.blt id r = false := by
  rw [← Bool.not_eq_true, Nat.blt_eq]
  omega
 simp [hb]
theorem addLg_no2 {id r s : Nat} {lg : List (Nat × Nat)} (h : r ≤ id) (h' : s ≤ id) : addLg id [r, s] lg = lg := by
 unfold addLg
 have hb : Nat.blt id r = false := by
  rw [← Bool.not_eq_true, Nat.blt_eq]
  omega
 have hb' : Nat.blt id s = false := by
  rw [← Bool.not_eq_true, Nat.blt_eq]
  omega
 simp [hb, hb']
theorem own_retY {f : Nat} {fn : Func} {M : Mem} {L : List VObj} {Y : List (Nat × Nat)} {e : Env} {t : Nat} {X : VV} (hY : ∀ x ∈ Y, M.H.length ≤ x.1) (h1 : fn.results.toList = [.tmp t]) (hr : frz M.H.length (M.H ++ L) (get e t) = X) (h2 : refs X = []) : ownQ T f fn M (fun r M' => M' = M ∧ r = X) .ret e ⟨M.H ++ L, M.lg ++ Y⟩ [] :=
 ⟨.inr rfl, rfl, ⟨Y, rfl, hY⟩, M.H, L, rfl, rfl, [get e t], by rw [h1]; rfl, X, hr, by simp [h2], rfl, rfl⟩
theorem litT : vbin T .eql 9 (vs txV) (.p (.str ⟨⟨([104, 97, 108, 108, 32, 51, 32, 50, 32, 50, 32, 49, 10, 119, 97, 116, 101, 114, 32, 48, 32, 48, 10, 119, 97, 116, 101, 114, 32, 50, 32, 49, 10, 115].append [104, 117, 116, 32, 49, 32, 49, 10, 98, 101, 97, 114, 115, 32, 53, 48, 48, 10, 98, 101, 97, 114, 115, 32, 51, 48, 48, 10, 98, 101, 97, 114, 115, 32]).append ([53, 48, 48, 10, 98, 101, 97, 114, 115, 32, 50, 48, 48, 10, 107, 105, 110, 100, 32, 50, 48, 48, 32, 51, 48, 48, 32, 49, 32, 57, 48, 32, 50, 32].append [48, 32, 50, 10, 107, 105, 110, 100, 32, 49, 48, 48, 32, 49, 53, 48, 32, 48, 32, 53, 48, 32, 51, 32, 49, 32, 48, 10, 101, 110, 100, 32, 50, 10])⟩⟩)) = some (vb true) := by
 have h : (⟨⟨([104, 97, 108, 108, 32, 51, 32, 50, 32, 50, 32, 49, 10, 119, 97, 116, 101, 114, 32, 48, 32, 48, 10, 119, 97, 116, 101, 114, 32, 50, 32, 49, 10, 115].append [104, 117, 116, 32, 49, 32, 49, 10, 98, 101, 97, 114, 115, 32, 53, 48, 48, 10, 98, 101, 97, 114, 115, 32, 51, 48, 48, 10, 98, 101, 97, 114, 115, 32]).append ([53, 48, 48, 10, 98, 101, 97, 114, 115, 32, 50, 48, 48, 10, 107, 105, 110, 100, 32, 50, 48, 48, 32, 51, 48, 48, 32, 49, 32, 57, 48, 32, 50, 32].append [48, 32, 50, 10, 107, 105, 110, 100, 32, 49, 48, 48, 32, 49, 53, 48, 32, 48, 32, 53, 48, 32, 51, 32, 49, 32, 48, 10, 101, 110, 100, 32, 50, 10])⟩⟩ : ByteArray) = tx txV := rfl
 rw [h]
 exact (v_eqS _ _ _).trans (by simp)
abbrev knL (n : Nat) : List VObj := [.obj (hwC (n + 1)), .dead, .dead, .obj (hallC lH), .obj (hallC wH), .obj (hallC dH)]
set_option maxHeartbeats 8000000 in
set_option maxRecDepth 100000 in
theorem known_v (M : Mem) : VC Tryd.prog 3 [] M (fun r M' => M' = M ∧ r = vb true) := by
 have l1 : ∀ lg, addLg (M.H.length + 5) [M.H.length + 1, M.H.length + 2] lg = lg := fun lg => addLg_no2 (by omega) (by omega)
 have hb3 : (3 ≤ vH.bears.length) = True := eq_true (by decide)
 have hb1 : (1 ≤ vL.length) = True := eq_true (by decide)
 have hL2 : vL.length = 2 := rfl
 refine VC_own' T_ok (f := 3) (fn := Tryd.f3) (by kernel_rfl) rfl Tryd.ntmps3 (by rfl) (by rfl) ?_
 ((repeat refine Ws ?_);refine W_regionE T_ok ?_; intro Kn hKn)
 ((simp (maxSteps := 1000000) only [VL,VM,↓VG,reduceIte,reduceCtorEq,zA,zB,zC,zD,zE,zF,zG,zH,zI,zJ, t_errnos]); rw [hKn];clear hKn Kn;simp only [QV,reduceIte,reduceCtorEq,Nat.reduceEqDiff])
 ((repeat refine Ws ?_);refine W_regionE T_ok ?_; intro Kn hKn)
 simp (maxSteps := 1000000) only [VL,VM,↓VG,reduceIte,reduceCtorEq,zA,zB,zC,zD,zE,zF,zG,zH,zI,zJ, t_errnos]
 apply call_eq (f := 4) (fn := Tryd.f4) (by kernel_rfl) (by rfl)
 ·exact hall_v _
 simp (maxSteps := 1000000) only [VL,VM,↓VG,reduceIte,reduceCtorEq,zA,zB,zC,zD,zE,zF,zG,zH,zI,zJ, t_errnos]
 apply call_eq (f := 4) (fn := Tryd.f4) (by kernel_rfl) (by rfl)
 ·exact hall_v _
 simp (maxSteps := 1000000) only [VL,VM,↓VG,reduceIte,reduceCtorEq,zA,zB,zC,zD,zE,zF,zG,zH,zI,zJ, t_errnos]
 refine fn_call (f := 4) (fn := Tryd.f4) (by kernel_rfl) (by rfl) ?_
 refine (hall_hw _).mono ?_
 rintro _ _ ⟨⟨YY, rfl, hY⟩, rfl⟩
 replace hY : ∀ e ∈ YY, M.H.length ≤ e.1 := hY
 ((simp (maxSteps := 1000000) only [VL,VM,↓VG,reduceIte,reduceCtorEq,zA,zB,zC,zD,zE,zF,zG,zH,zI,zJ, t_errnos, l1]); rw [hKn];clear hKn Kn;simp only [QV,reduceIte,reduceCtorEq,Nat.reduceEqDiff])
 (repeat refine Ws ?_)
 refine W_drawE T_ok [] (by kernel_rfl) (by kernel_rfl) ?_
 intro Kn hKn
 generalize hi : mkPlan _ = infs
 cbv at hi
 subst hi
 ((simp (maxSteps := 1000000) only [VL,VM,↓VG,reduceIte,reduceCtorEq,zA,zB,zC,zD,zE,zF,zG,zH,zI,zJ, t_errnos, l1, hb3, cond_true]); rw [hKn];clear hKn Kn;simp only [QV,reduceIte,reduceCtorEq,Nat.reduceEqDiff])
 (repeat refine Ws ?_)
 refine W_frz1 (id := M.H.length + 1) (n := 2) (k := 2) (o := M.H.length + 5) (j := 2) (xs := dH.water.map plP) (by rw [hget]; rfl) (by rw [hget]; rfl) rfl (by simp) rfl (by omega) ?_
 simp only [hset, List.set_cons_succ, List.set_cons_zero]
 refine W_frz1 (id := M.H.length + 2) (n := 1) (k := 2) (o := M.H.length + 5) (j := 3) (xs := dH.shut.map plP) (by rw [hget]; rfl) (by rw [hget]; rfl) rfl (by simp) rfl (by omega) ?_
 simp only [hset, List.set_cons_succ, List.set_cons_zero]
 refine W_eqM (M' := ⟨M.H ++ knL M.H.length, M.lg ++ YY⟩) rfl ?_
 refine WCode.weak (e' := [(1, .ptr (M.H.length + 3) 0), (2, .ptr (M.H.length + 4) 0), (3, .ptr (M.H.length + 5) 0)]) ?_ (Sub.ok ⟨rfl, rfl, rfl, trivial⟩)
 ((repeat refine Ws ?_);refine W_regionE T_ok ?_; intro Kn hKn)
 simp (maxSteps := 1000000) only [VL,VM,↓VG,reduceIte,reduceCtorEq,zA,zB,zC,zD,zE,zF,zG,zH,zI,zJ, t_errnos]
 apply call_eq (f := 5) (fn := Tryd.f5) (by kernel_rfl) (by rfl)
 ·exact awake_w _
 simp (maxSteps := 1000000) only [VL,VM,↓VG,reduceIte,reduceCtorEq,zA,zB,zC,zD,zE,zF,zG,zH,zI,zJ, t_errnos]
 apply call_eq (f := 4) (fn := Tryd.f4) (by kernel_rfl) (by rfl)
 ·exact hall_v _
 simp (maxSteps := 1000000) only [VL,VM,↓VG,reduceIte,reduceCtorEq,zA,zB,zC,zD,zE,zF,zG,zH,zI,zJ, t_errnos]
 apply call_eq (f := 6) (fn := Tryd.f6) (by kernel_rfl) (by rfl)
 ·exact check_vm vH _ vH_fin
 simp (maxSteps := 1000000) only [VL,VM,↓VG,reduceIte,reduceCtorEq,zA,zB,zC,zD,zE,zF,zG,zH,zI,zJ, t_errnos, vH_err]
 apply call_eq (f := 6) (fn := Tryd.f6) (by kernel_rfl) (by rfl)
 ·exact check_vm lH _ lH_fin
 simp (maxSteps := 1000000) only [VL,VM,↓VG,reduceIte,reduceCtorEq,zA,zB,zC,zD,zE,zF,zG,zH,zI,zJ, t_errnos, lH_err]
 apply call_eq (f := 6) (fn := Tryd.f6) (by kernel_rfl) (by rfl)
 ·exact check_vm wH _ wH_fin
 simp (maxSteps := 1000000) only [VL,VM,↓VG,reduceIte,reduceCtorEq,zA,zB,zC,zD,zE,zF,zG,zH,zI,zJ, t_errnos, wH_err]
 apply call_eq (f := 6) (fn := Tryd.f6) (by kernel_rfl) (by rfl)
 ·exact check_vm dH _ dH_fin
 simp (maxSteps := 1000000) only [VL,VM,↓VG,reduceIte,reduceCtorEq,zA,zB,zC,zD,zE,zF,zG,zH,zI,zJ, t_errnos, dH_err]
 apply call_eq (f := 4) (fn := Tryd.f4) (by kernel_rfl) (by rfl)
 ·exact hall_v _
 simp (maxSteps := 1000000) only [VL,VM,↓VG,reduceIte,reduceCtorEq,zA,zB,zC,zD,zE,zF,zG,zH,zI,zJ, t_errnos]
 apply call_eq (f := 8) (fn := Tryd.f8) (by kernel_rfl) (by rfl)
 ·exact stalls_v _
 simp (maxSteps := 1000000) only [VL,VM,↓VG,reduceIte,reduceCtorEq,zA,zB,zC,zD,zE,zF,zG,zH,zI,zJ, t_errnos]
 apply call_eq (f := 7) (fn := Tryd.f7) (by kernel_rfl) (by rfl)
 ·exact checkLayout_vm vH vL _ vH_fin (by decide)
 ((simp (maxSteps := 1000000) only [VL,VM,↓VG,reduceIte,reduceCtorEq,zA,zB,zC,zD,zE,zF,zG,zH,zI,zJ, t_errnos, vL_err]); rw [hKn];clear hKn Kn;simp only [QV,reduceIte,reduceCtorEq,Nat.reduceEqDiff])
 ((repeat refine Ws ?_);refine Wf (by first|rfl|simp only [EV,zF,reduceIte]) ?_)
 (((repeat refine Ws ?_);refine W_skip ?_); simp only [QV,reduceIte,reduceCtorEq,Nat.reduceEqDiff])
 refine WCode.weak (e' := []) ?_ (Sub.ok trivial)
 obtain ⟨L, hL⟩ : ∃ L, L = knL M.H.length := ⟨_, rfl⟩
 rw [← hL]
 obtain ⟨A, hA⟩ : ∃ A, A = M.H ++ L := ⟨_, rfl⟩
 rw [← hA]
 ((repeat refine Ws ?_);refine W_regionE T_ok ?_; intro Kn hKn)
 simp (maxSteps := 1000000) only [VL,VM,↓VG,reduceIte,reduceCtorEq,zA,zB,zC,zD,zE,zF,zG,zH,zI,zJ, t_errnos]
 apply call_eq (f := 9) (fn := Tryd.f9) (by kernel_rfl) (by rfl)
 ·exact vat_v 0 2 1 _
 simp (maxSteps := 1000000) only [VL,VM,↓VG,reduceIte,reduceCtorEq,zA,zB,zC,zD,zE,zF,zG,zH,zI,zJ, t_errnos]
 apply call_eq (f := 9) (fn := Tryd.f9) (by kernel_rfl) (by rfl)
 ·exact vat_v 1 1 1 _
 simp (maxSteps := 1000000) only [VL,VM,↓VG,reduceIte,reduceCtorEq,zA,zB,zC,zD,zE,zF,zG,zH,zI,zJ, t_errnos]
 apply call_eq (f := 9) (fn := Tryd.f9) (by kernel_rfl) (by rfl)
 ·exact vat_v 0 1 0 _
 simp (maxSteps := 1000000) only [VL,VM,↓VG,reduceIte,reduceCtorEq,zA,zB,zC,zD,zE,zF,zG,zH,zI,zJ, t_errnos]
 apply call_eq (f := 9) (fn := Tryd.f9) (by kernel_rfl) (by rfl)
 ·exact vat_v 1 2 0 _
 ((simp (maxSteps := 1000000) only [VL,VM,↓VG,reduceIte,reduceCtorEq,zA,zB,zC,zD,zE,zF,zG,zH,zI,zJ, t_errnos]); rw [hKn];clear hKn Kn;simp only [QV,reduceIte,reduceCtorEq,Nat.reduceEqDiff])
 ((repeat refine Ws ?_);refine W_regionE T_ok ?_; intro Kn hKn)
 ((simp (maxSteps := 1000000) only [VL,VM,↓VG,reduceIte,reduceCtorEq,zA,zB,zC,zD,zE,zF,zG,zH,zI,zJ, t_errnos]); rw [hKn];clear hKn Kn;simp only [QV,reduceIte,reduceCtorEq,Nat.reduceEqDiff])
 ((repeat refine Ws ?_);refine W_block ?_; (repeat refine Ws ?_)); refine W_loopS (fun s : Nat × List VObj => [(4, .sf 3 [[.int .i64 2, .int .i64 1, .int .i64 0], [.int .i64 1, .int .i64 1, .int .i64 1], [.int .i64 1, .int .i64 0, .int .i64 0], [.int .i64 2, .int .i64 0, .int .i64 1]]), (5, .sf 1 [[.int .i64 9], [.int .i64 11], [.int .i64 7], [.int .i64 4]]), (6, vi s.1)]) (fun s => ⟨A ++ s.2, M.lg ++ YY⟩) (fun s => 4 - s.1) (fun s => s.1 ≤ 4) (0, []) (by simp) ⟨rfl, rfl, rfl, trivial⟩ (by simp) ?_
 rintro ⟨i, junk⟩ hi
 simp only at hi
 obtain ⟨B, hB⟩ : ∃ B, B = A ++ junk := ⟨_, rfl⟩
 rw [← hB]
 obtain rfl | rfl | rfl | rfl | rfl : i = 0 ∨ i = 1 ∨ i = 2 ∨ i = 3 ∨ i = 4 := by omega
 ·have k1 : -9223372036854775808 ≤ ((0 : Nat) : Int) + 1 ∧ ((0 : Nat) : Int) + 1 < 9223372036854775808 := by decide
  ((repeat refine Ws ?_);refine W_regionE T_ok ?_; intro Kn hKn)
  ((simp (maxSteps := 1000000) only [VL,VM,↓VG,reduceIte,reduceCtorEq,zA,zB,zC,zD,zE,zF,zG,zH,zI,zJ, t_errnos]); rw [hKn];clear hKn Kn;simp only [QV,reduceIte,reduceCtorEq,Nat.reduceEqDiff])
  ((repeat refine Ws ?_);refine Wt (by first|rfl|simp only [EV,zF,reduceIte]) ?_)
  (((repeat refine Ws ?_);refine W_skip ?_); simp only [QV,reduceIte,reduceCtorEq,Nat.reduceEqDiff])
  ((repeat refine Ws ?_);refine W_block ?_)
  (repeat refine Ws ?_)
  refine W_drawE T_ok [] (by kernel_rfl) (by kernel_rfl) ?_
  intro Kn hKn
  generalize hi : mkPlan _ = infs
  cbv at hi
  subst hi
  simp (maxSteps := 1000000) only [VL,VM,↓VG,reduceIte,reduceCtorEq,zA,zB,zC,zD,zE,zF,zG,zH,zI,zJ, t_errnos]
  apply call_d (f := 4) (fn := Tryd.f4) (by kernel_rfl) (by rfl)
  ·exact hall_v _
  simp (maxSteps := 1000000) only [VL,VM,↓VG,reduceIte,reduceCtorEq,zA,zB,zC,zD,zE,zF,zG,zH,zI,zJ, t_errnos]
  apply call_d (f := 8) (fn := Tryd.f8) (by kernel_rfl) (by rfl)
  ·exact stalls_k _
  simp (maxSteps := 1000000) only [VL,VM,↓VG,reduceIte,reduceCtorEq,zA,zB,zC,zD,zE,zF,zG,zH,zI,zJ, t_errnos, hL2, cond_true]
  apply call_d (f := 7) (fn := Tryd.f7) (by kernel_rfl) (by rfl)
  ·exact checkLayout_vm vH (vL ++ [⟨⟨2, 1⟩, 0⟩]) _ vH_fin (by decide)
  ((simp (maxSteps := 1000000) only [VL,VM,↓VG,reduceIte,reduceCtorEq,zA,zB,zC,zD,zE,zF,zG,zH,zI,zJ, t_errnos, vM0_err]); rw [hKn];clear hKn Kn;simp only [QV,reduceIte,reduceCtorEq,Nat.reduceEqDiff])
  ((repeat refine Ws ?_);refine Wf (by first|rfl|simp only [EV,zF,reduceIte]) ?_)
  (((repeat refine Ws ?_);refine W_skip ?_); simp only [QV,reduceIte,reduceCtorEq,Nat.reduceEqDiff])
  ((repeat refine Ws ?_);refine W_regionE T_ok ?_; intro Kn hKn)
  ((simp (maxSteps := 1000000) only [VL,VM,↓VG,reduceIte,reduceCtorEq,zA,zB,zC,zD,zE,zF,zG,zH,zI,zJ, t_errnos, k1]); rw [hKn];clear hKn Kn;simp only [QV,reduceIte,reduceCtorEq,Nat.reduceEqDiff])
  refine LoopK.mk (1, junk ++ [.clm 3 3]) (by simp) (by simp) ⟨rfl, rfl, rfl, trivial⟩ (by rw [hB]; simp)
 ·have k1 : -9223372036854775808 ≤ ((1 : Nat) : Int) + 1 ∧ ((1 : Nat) : Int) + 1 < 9223372036854775808 := by decide
  ((repeat refine Ws ?_);refine W_regionE T_ok ?_; intro Kn hKn)
  ((simp (maxSteps := 1000000) only [VL,VM,↓VG,reduceIte,reduceCtorEq,zA,zB,zC,zD,zE,zF,zG,zH,zI,zJ, t_errnos]); rw [hKn];clear hKn Kn;simp only [QV,reduceIte,reduceCtorEq,Nat.reduceEqDiff])
  ((repeat refine Ws ?_);refine Wt (by first|rfl|simp only [EV,zF,reduceIte]) ?_)
  (((repeat refine Ws ?_);refine W_skip ?_); simp only [QV,reduceIte,reduceCtorEq,Nat.reduceEqDiff])
  ((repeat refine Ws ?_);refine W_block ?_)
  (repeat refine Ws ?_)
  refine W_drawE T_ok [] (by kernel_rfl) (by kernel_rfl) ?_
  intro Kn hKn
  generalize hi : mkPlan _ = infs
  cbv at hi
  subst hi
  simp (maxSteps := 1000000) only [VL,VM,↓VG,reduceIte,reduceCtorEq,zA,zB,zC,zD,zE,zF,zG,zH,zI,zJ, t_errnos]
  apply call_d (f := 4) (fn := Tryd.f4) (by kernel_rfl) (by rfl)
  ·exact hall_v _
  simp (maxSteps := 1000000) only [VL,VM,↓VG,reduceIte,reduceCtorEq,zA,zB,zC,zD,zE,zF,zG,zH,zI,zJ, t_errnos]
  apply call_d (f := 8) (fn := Tryd.f8) (by kernel_rfl) (by rfl)
  ·exact stalls_k _
  simp (maxSteps := 1000000) only [VL,VM,↓VG,reduceIte,reduceCtorEq,zA,zB,zC,zD,zE,zF,zG,zH,zI,zJ, t_errnos, hL2, cond_true]
  apply call_d (f := 7) (fn := Tryd.f7) (by kernel_rfl) (by rfl)
  ·exact checkLayout_vm vH (vL ++ [⟨⟨1, 1⟩, 1⟩]) _ vH_fin (by decide)
  ((simp (maxSteps := 1000000) only [VL,VM,↓VG,reduceIte,reduceCtorEq,zA,zB,zC,zD,zE,zF,zG,zH,zI,zJ, t_errnos, vM1_err]); rw [hKn];clear hKn Kn;simp only [QV,reduceIte,reduceCtorEq,Nat.reduceEqDiff])
  ((repeat refine Ws ?_);refine Wf (by first|rfl|simp only [EV,zF,reduceIte]) ?_)
  (((repeat refine Ws ?_);refine W_skip ?_); simp only [QV,reduceIte,reduceCtorEq,Nat.reduceEqDiff])
  ((repeat refine Ws ?_);refine W_regionE T_ok ?_; intro Kn hKn)
  ((simp (maxSteps := 1000000) only [VL,VM,↓VG,reduceIte,reduceCtorEq,zA,zB,zC,zD,zE,zF,zG,zH,zI,zJ, t_errnos, k1]); rw [hKn];clear hKn Kn;simp only [QV,reduceIte,reduceCtorEq,Nat.reduceEqDiff])
  refine LoopK.mk (2, junk ++ [.clm 3 3]) (by simp) (by simp) ⟨rfl, rfl, rfl, trivial⟩ (by rw [hB]; simp)
 ·have k1 : -9223372036854775808 ≤ ((2 : Nat) : Int) + 1 ∧ ((2 : Nat) : Int) + 1 < 9223372036854775808 := by decide
  ((repeat refine Ws ?_);refine W_regionE T_ok ?_; intro Kn hKn)
  ((simp (maxSteps := 1000000) only [VL,VM,↓VG,reduceIte,reduceCtorEq,zA,zB,zC,zD,zE,zF,zG,zH,zI,zJ, t_errnos]); rw [hKn];clear hKn Kn;simp only [QV,reduceIte,reduceCtorEq,Nat.reduceEqDiff])
  ((repeat refine Ws ?_);refine Wt (by first|rfl|simp only [EV,zF,reduceIte]) ?_)
  (((repeat refine Ws ?_);refine W_skip ?_); simp only [QV,reduceIte,reduceCtorEq,Nat.reduceEqDiff])
  ((repeat refine Ws ?_);refine W_block ?_)
  (repeat refine Ws ?_)
  refine W_drawE T_ok [] (by kernel_rfl) (by kernel_rfl) ?_
  intro Kn hKn
  generalize hi : mkPlan _ = infs
  cbv at hi
  subst hi
  simp (maxSteps := 1000000) only [VL,VM,↓VG,reduceIte,reduceCtorEq,zA,zB,zC,zD,zE,zF,zG,zH,zI,zJ, t_errnos]
  apply call_d (f := 4) (fn := Tryd.f4) (by kernel_rfl) (by rfl)
  ·exact hall_v _
  simp (maxSteps := 1000000) only [VL,VM,↓VG,reduceIte,reduceCtorEq,zA,zB,zC,zD,zE,zF,zG,zH,zI,zJ, t_errnos]
  apply call_d (f := 8) (fn := Tryd.f8) (by kernel_rfl) (by rfl)
  ·exact stalls_k _
  simp (maxSteps := 1000000) only [VL,VM,↓VG,reduceIte,reduceCtorEq,zA,zB,zC,zD,zE,zF,zG,zH,zI,zJ, t_errnos, hL2, cond_true]
  apply call_d (f := 7) (fn := Tryd.f7) (by kernel_rfl) (by rfl)
  ·exact checkLayout_vm vH (vL ++ [⟨⟨1, 0⟩, 0⟩]) _ vH_fin (by decide)
  ((simp (maxSteps := 1000000) only [VL,VM,↓VG,reduceIte,reduceCtorEq,zA,zB,zC,zD,zE,zF,zG,zH,zI,zJ, t_errnos, vM2_err]); rw [hKn];clear hKn Kn;simp only [QV,reduceIte,reduceCtorEq,Nat.reduceEqDiff])
  ((repeat refine Ws ?_);refine Wf (by first|rfl|simp only [EV,zF,reduceIte]) ?_)
  (((repeat refine Ws ?_);refine W_skip ?_); simp only [QV,reduceIte,reduceCtorEq,Nat.reduceEqDiff])
  ((repeat refine Ws ?_);refine W_regionE T_ok ?_; intro Kn hKn)
  ((simp (maxSteps := 1000000) only [VL,VM,↓VG,reduceIte,reduceCtorEq,zA,zB,zC,zD,zE,zF,zG,zH,zI,zJ, t_errnos, k1]); rw [hKn];clear hKn Kn;simp only [QV,reduceIte,reduceCtorEq,Nat.reduceEqDiff])
  refine LoopK.mk (3, junk ++ [.clm 3 3]) (by simp) (by simp) ⟨rfl, rfl, rfl, trivial⟩ (by rw [hB]; simp)
 ·have k1 : -9223372036854775808 ≤ ((3 : Nat) : Int) + 1 ∧ ((3 : Nat) : Int) + 1 < 9223372036854775808 := by decide
  ((repeat refine Ws ?_);refine W_regionE T_ok ?_; intro Kn hKn)
  ((simp (maxSteps := 1000000) only [VL,VM,↓VG,reduceIte,reduceCtorEq,zA,zB,zC,zD,zE,zF,zG,zH,zI,zJ, t_errnos]); rw [hKn];clear hKn Kn;simp only [QV,reduceIte,reduceCtorEq,Nat.reduceEqDiff])
  ((repeat refine Ws ?_);refine Wt (by first|rfl|simp only [EV,zF,reduceIte]) ?_)
  (((repeat refine Ws ?_);refine W_skip ?_); simp only [QV,reduceIte,reduceCtorEq,Nat.reduceEqDiff])
  ((repeat refine Ws ?_);refine W_block ?_)
  (repeat refine Ws ?_)
  refine W_drawE T_ok [] (by kernel_rfl) (by kernel_rfl) ?_
  intro Kn hKn
  generalize hi : mkPlan _ = infs
  cbv at hi
  subst hi
  simp (maxSteps := 1000000) only [VL,VM,↓VG,reduceIte,reduceCtorEq,zA,zB,zC,zD,zE,zF,zG,zH,zI,zJ, t_errnos]
  apply call_d (f := 4) (fn := Tryd.f4) (by kernel_rfl) (by rfl)
  ·exact hall_v _
  simp (maxSteps := 1000000) only [VL,VM,↓VG,reduceIte,reduceCtorEq,zA,zB,zC,zD,zE,zF,zG,zH,zI,zJ, t_errnos]
  apply call_d (f := 8) (fn := Tryd.f8) (by kernel_rfl) (by rfl)
  ·exact stalls_k _
  simp (maxSteps := 1000000) only [VL,VM,↓VG,reduceIte,reduceCtorEq,zA,zB,zC,zD,zE,zF,zG,zH,zI,zJ, t_errnos, hL2, cond_true]
  apply call_d (f := 7) (fn := Tryd.f7) (by kernel_rfl) (by rfl)
  ·exact checkLayout_vm vH (vL ++ [⟨⟨2, 0⟩, 1⟩]) _ vH_fin (by decide)
  ((simp (maxSteps := 1000000) only [VL,VM,↓VG,reduceIte,reduceCtorEq,zA,zB,zC,zD,zE,zF,zG,zH,zI,zJ, t_errnos, vM3_err]); rw [hKn];clear hKn Kn;simp only [QV,reduceIte,reduceCtorEq,Nat.reduceEqDiff])
  ((repeat refine Ws ?_);refine Wf (by first|rfl|simp only [EV,zF,reduceIte]) ?_)
  (((repeat refine Ws ?_);refine W_skip ?_); simp only [QV,reduceIte,reduceCtorEq,Nat.reduceEqDiff])
  ((repeat refine Ws ?_);refine W_regionE T_ok ?_; intro Kn hKn)
  ((simp (maxSteps := 1000000) only [VL,VM,↓VG,reduceIte,reduceCtorEq,zA,zB,zC,zD,zE,zF,zG,zH,zI,zJ, t_errnos, k1]); rw [hKn];clear hKn Kn;simp only [QV,reduceIte,reduceCtorEq,Nat.reduceEqDiff])
  refine LoopK.mk (4, junk ++ [.clm 3 3]) (by simp) (by simp) ⟨rfl, rfl, rfl, trivial⟩ (by rw [hB]; simp)
 ((repeat refine Ws ?_);refine W_regionE T_ok ?_; intro Kn hKn)
 ((simp (maxSteps := 1000000) only [VL,VM,↓VG,reduceIte,reduceCtorEq,zA,zB,zC,zD,zE,zF,zG,zH,zI,zJ, t_errnos]); rw [hKn];clear hKn Kn;simp only [QV,reduceIte,reduceCtorEq,Nat.reduceEqDiff])
 ((repeat refine Ws ?_);refine Wf (by first|rfl|simp only [EV,zF,reduceIte]) ?_)
 (((repeat refine Ws ?_);refine W_exit ?_); simp only [QV,reduceIte,reduceCtorEq,Nat.reduceEqDiff])
 refine WCode.weak (e' := []) ?_ (Sub.ok trivial)
 have l3 : ∀ lg, addLg (B.length + 4) [B.length + 1] lg = lg := fun lg => addLg_no1 (by omega)
 have l4 : ∀ lg, addLg (B.length + 5) [B.length + 3] lg = lg := fun lg => addLg_no1 (by omega)
 have h00 : (((0 : Nat) : Int) = 0) = True := eq_true rfl
 have hAB : M.H.length ≤ B.length := by rw [hB, hA]; simp only [List.length_append]; omega
 ((repeat refine Ws ?_);refine W_regionE T_ok ?_; intro Kn hKn)
 simp (maxSteps := 1000000) only [VL,VM,↓VG,reduceIte,reduceCtorEq,zA,zB,zC,zD,zE,zF,zG,zH,zI,zJ, t_errnos]
 refine fn_call (f := 4) (fn := Tryd.f4) (by kernel_rfl) (by rfl) ?_
 refine (hall_hb _).mono ?_
 rintro _ _ ⟨⟨Y1, rfl, hY1⟩, rfl⟩
 replace hY1 : ∀ e ∈ Y1, B.length ≤ e.1 := hY1
 simp (maxSteps := 1000000) only [VL,VM,↓VG,reduceIte,reduceCtorEq,zA,zB,zC,zD,zE,zF,zG,zH,zI,zJ, t_errnos]
 refine fn_call (f := 4) (fn := Tryd.f4) (by kernel_rfl) (by rfl) ?_
 refine (hall_hb _).mono ?_
 rintro _ _ ⟨⟨Y2, rfl, hY2⟩, rfl⟩
 ((simp (maxSteps := 1000000) only [VL,VM,↓VG,reduceIte,reduceCtorEq,zA,zB,zC,zD,zE,zF,zG,zH,zI,zJ, t_errnos, l3, l4]); rw [hKn];clear hKn Kn;simp only [QV,reduceIte,reduceCtorEq,Nat.reduceEqDiff])
 (repeat refine Ws ?_)
 refine W_drawE T_ok [] (by kernel_rfl) (by kernel_rfl) ?_
 intro Kn hKn
 generalize hi : mkPlan _ = infs
 cbv at hi
 subst hi
 ((simp (maxSteps := 1000000) only [VL,VM,↓VG,reduceIte,reduceCtorEq,zA,zB,zC,zD,zE,zF,zG,zH,zI,zJ, t_errnos, l3, l4]); rw [hKn];clear hKn Kn;simp only [QV,reduceIte,reduceCtorEq,Nat.reduceEqDiff])
 (repeat refine Ws ?_)
 refine W_frz1 (id := B.length + 1) (n := 4) (k := 1) (o := B.length + 4) (j := 6) (xs := kH.bears.map intP) (by rw [hget]; rfl) (by rw [hget]; rfl) rfl (by simp) rfl (by omega) ?_
 simp only [hset, List.set_cons_succ, List.set_cons_zero]
 refine W_frz1 (id := B.length + 3) (n := 4) (k := 1) (o := B.length + 5) (j := 6) (xs := zH.bears.map intP) (by rw [hget]; rfl) (by rw [hget]; rfl) rfl (by simp) rfl (by omega) ?_
 simp only [hset, List.set_cons_succ, List.set_cons_zero]
 refine W_eqM (M' := ⟨B ++ [.obj (hbC (B.length + 1)), .dead, .obj (hbC (B.length + 3)), .dead, .obj (hallC kH), .obj (hallC zH)], M.lg ++ (YY ++ (Y1 ++ Y2))⟩) (by first | rfl | (simp; done) | (simp; rfl)) ?_
 have hYY : ∀ e ∈ YY ++ (Y1 ++ Y2), M.H.length ≤ e.1 := fun e he => by
  rcases List.mem_append.1 he with h | h
  ·exact hY e h
  ·rcases List.mem_append.1 h with h | h
   ·have := hY1 e h; omega
   ·have := hY2 e h
    simp only [List.length_append, List.length_cons, List.length_nil] at this
    omega
 generalize YY ++ (Y1 ++ Y2) = Y at hYY ⊢
 refine WCode.weak (e' := [(7, .ptr (B.length + 4) 0), (8, .ptr (B.length + 5) 0)]) ?_ (Sub.ok ⟨rfl, rfl, trivial⟩)
 ((repeat refine Ws ?_);refine W_regionE T_ok ?_; intro Kn hKn)
 simp (maxSteps := 1000000) only [VL,VM,↓VG,reduceIte,reduceCtorEq,zA,zB,zC,zD,zE,zF,zG,zH,zI,zJ, t_errnos]
 apply call_eq (f := 4) (fn := Tryd.f4) (by kernel_rfl) (by rfl)
 ·exact hall_v _
 simp (maxSteps := 1000000) only [VL,VM,↓VG,reduceIte,reduceCtorEq,zA,zB,zC,zD,zE,zF,zG,zH,zI,zJ, t_errnos]
 apply call_eq (f := 8) (fn := Tryd.f8) (by kernel_rfl) (by rfl)
 ·exact stalls_v _
 simp (maxSteps := 1000000) only [VL,VM,↓VG,reduceIte,reduceCtorEq,zA,zB,zC,zD,zE,zF,zG,zH,zI,zJ, t_errnos]
 apply call_eq (f := 10) (fn := Tryd.f10) (by kernel_rfl) (by rfl)
 ·exact Bears_vm vH vL _ vH_fin (by decide)
 rw [vL_bears, vL_err]
 ((simp (maxSteps := 1000000) only [VL,VM,↓VG,reduceIte,reduceCtorEq,zA,zB,zC,zD,zE,zF,zG,zH,zI,zJ, t_errnos]); rw [hKn];clear hKn Kn;simp only [QV,reduceIte,reduceCtorEq,Nat.reduceEqDiff])
 (repeat refine Ws ?_)
 refine W_drawE T_ok [] (by kernel_rfl) (by kernel_rfl) ?_
 intro Kn hKn
 generalize hi : mkPlan _ = infs
 cbv at hi
 subst hi
 simp (maxSteps := 1000000) only [VL,VM,↓VG,reduceIte,reduceCtorEq,zA,zB,zC,zD,zE,zF,zG,zH,zI,zJ, t_errnos]
 apply call_d (f := 9) (fn := Tryd.f9) (by kernel_rfl) (by rfl)
 ·exact vat_v 0 2 1 _
 simp (maxSteps := 1000000) only [VL,VM,↓VG,reduceIte,reduceCtorEq,zA,zB,zC,zD,zE,zF,zG,zH,zI,zJ, t_errnos]
 apply call_d (f := 10) (fn := Tryd.f10) (by kernel_rfl) (by rfl)
 ·exact Bears_vm kH [⟨⟨2, 1⟩, 0⟩] _ kH_fin (by decide)
 rw [kH_bears, kH_err]
 ((simp (maxSteps := 1000000) only [VL,VM,↓VG,reduceIte,reduceCtorEq,zA,zB,zC,zD,zE,zF,zG,zH,zI,zJ, t_errnos]); rw [hKn];clear hKn Kn;simp only [QV,reduceIte,reduceCtorEq,Nat.reduceEqDiff])
 ((repeat refine Ws ?_);refine W_regionE T_ok ?_; intro Kn hKn)
 simp (maxSteps := 1000000) only [VL,VM,↓VG,reduceIte,reduceCtorEq,zA,zB,zC,zD,zE,zF,zG,zH,zI,zJ, t_errnos]
 apply call_eq (f := 4) (fn := Tryd.f4) (by kernel_rfl) (by rfl)
 ·exact hall_v _
 simp (maxSteps := 1000000) only [VL,VM,↓VG,reduceIte,reduceCtorEq,zA,zB,zC,zD,zE,zF,zG,zH,zI,zJ, t_errnos]
 apply call_eq (f := 8) (fn := Tryd.f8) (by kernel_rfl) (by rfl)
 ·exact stalls_v _
 simp (maxSteps := 1000000) only [VL,VM,↓VG,reduceIte,reduceCtorEq,zA,zB,zC,zD,zE,zF,zG,zH,zI,zJ, t_errnos]
 apply call_eq (f := 11) (fn := Tryd.f11) (by kernel_rfl) (by rfl)
 ·exact Earns_vm vH vL _ vH_fin (by decide)
 rw [vL_earns, vL_err]
 ((simp (maxSteps := 1000000) only [VL,VM,↓VG,reduceIte,reduceCtorEq,zA,zB,zC,zD,zE,zF,zG,zH,zI,zJ, t_errnos]); rw [hKn];clear hKn Kn;simp only [QV,reduceIte,reduceCtorEq,Nat.reduceEqDiff])
 ((repeat refine Ws ?_);refine W_regionE T_ok ?_; intro Kn hKn)
 ((simp (maxSteps := 1000000) only [VL,VM,↓VG,reduceIte,reduceCtorEq,zA,zB,zC,zD,zE,zF,zG,zH,zI,zJ, t_errnos]); rw [hKn];clear hKn Kn;simp only [QV,reduceIte,reduceCtorEq,Nat.reduceEqDiff])
 ((repeat refine Ws ?_);refine Wf (by first|rfl|simp only [EV,zF,reduceIte]) ?_)
 (((repeat refine Ws ?_);refine W_skip ?_); simp only [QV,reduceIte,reduceCtorEq,Nat.reduceEqDiff])
 ((repeat refine Ws ?_);refine W_regionE T_ok ?_; intro Kn hKn)
 simp (maxSteps := 1000000) only [VL,VM,↓VG,reduceIte,reduceCtorEq,zA,zB,zC,zD,zE,zF,zG,zH,zI,zJ, t_errnos]
 apply call_eq (f := 4) (fn := Tryd.f4) (by kernel_rfl) (by rfl)
 ·exact hall_v _
 simp (maxSteps := 1000000) only [VL,VM,↓VG,reduceIte,reduceCtorEq,zA,zB,zC,zD,zE,zF,zG,zH,zI,zJ, t_errnos]
 apply call_eq (f := 8) (fn := Tryd.f8) (by kernel_rfl) (by rfl)
 ·exact stalls_v _
 simp (maxSteps := 1000000) only [VL,VM,↓VG,reduceIte,reduceCtorEq,zA,zB,zC,zD,zE,zF,zG,zH,zI,zJ, t_errnos, hb1, cond_true]
 apply call_eq (f := 12) (fn := Tryd.f12) (by kernel_rfl) (by rfl)
 ·exact room_vm vH [⟨⟨0, 0⟩, 0⟩] 1 _ vH_fin (by decide)
 rw [vR1, vR1_err]
 ((simp (maxSteps := 1000000) only [VL,VM,↓VG,reduceIte,reduceCtorEq,zA,zB,zC,zD,zE,zF,zG,zH,zI,zJ, t_errnos]); rw [hKn];clear hKn Kn;simp only [QV,reduceIte,reduceCtorEq,Nat.reduceEqDiff])
 ((repeat refine Ws ?_);refine W_regionE T_ok ?_; intro Kn hKn)
 simp (maxSteps := 1000000) only [VL,VM,↓VG,reduceIte,reduceCtorEq,zA,zB,zC,zD,zE,zF,zG,zH,zI,zJ, t_errnos]
 apply call_eq (f := 4) (fn := Tryd.f4) (by kernel_rfl) (by rfl)
 ·exact hall_v _
 simp (maxSteps := 1000000) only [VL,VM,↓VG,reduceIte,reduceCtorEq,zA,zB,zC,zD,zE,zF,zG,zH,zI,zJ, t_errnos]
 apply call_eq (f := 8) (fn := Tryd.f8) (by kernel_rfl) (by rfl)
 ·exact stalls_v _
 simp (maxSteps := 1000000) only [VL,VM,↓VG,reduceIte,reduceCtorEq,zA,zB,zC,zD,zE,zF,zG,zH,zI,zJ, t_errnos, hb1, cond_true]
 apply call_eq (f := 12) (fn := Tryd.f12) (by kernel_rfl) (by rfl)
 ·exact room_vm vH [⟨⟨0, 0⟩, 0⟩] 0 _ vH_fin (by decide)
 rw [vR0, vR0_err]
 ((simp (maxSteps := 1000000) only [VL,VM,↓VG,reduceIte,reduceCtorEq,zA,zB,zC,zD,zE,zF,zG,zH,zI,zJ, t_errnos]); rw [hKn];clear hKn Kn;simp only [QV,reduceIte,reduceCtorEq,Nat.reduceEqDiff])
 ((repeat refine Ws ?_);refine W_regionE T_ok ?_; intro Kn hKn)
 simp (maxSteps := 1000000) only [VL,VM,↓VG,reduceIte,reduceCtorEq,zA,zB,zC,zD,zE,zF,zG,zH,zI,zJ, t_errnos]
 apply call_eq (f := 13) (fn := Tryd.f13) (by kernel_rfl) (by rfl)
 ·exact best_vm zH _ zH_fin
 rw [zB, zB_err]
 ((simp (maxSteps := 1000000) only [VL,VM,↓VG,reduceIte,reduceCtorEq,zA,zB,zC,zD,zE,zF,zG,zH,zI,zJ, t_errnos]); rw [hKn];clear hKn Kn;simp only [QV,reduceIte,reduceCtorEq,Nat.reduceEqDiff])
 ((repeat refine Ws ?_);refine W_regionE T_ok ?_; intro Kn hKn)
 simp (maxSteps := 1000000) only [VL,VM,↓VG,reduceIte,reduceCtorEq,zA,zB,zC,zD,zE,zF,zG,zH,zI,zJ, t_errnos]
 apply call_eq (f := 4) (fn := Tryd.f4) (by kernel_rfl) (by rfl)
 ·exact hall_v _
 simp (maxSteps := 1000000) only [VL,VM,↓VG,reduceIte,reduceCtorEq,zA,zB,zC,zD,zE,zF,zG,zH,zI,zJ, t_errnos]
 apply call_eq (f := 14) (fn := Tryd.f14) (by kernel_rfl) (by rfl)
 ·exact pwrite_v vH _ vH_fin
 rw [vH_write, vH_err]
 ((simp (maxSteps := 1000000) only [VL,VM,↓VG,reduceIte,reduceCtorEq,zA,zB,zC,zD,zE,zF,zG,zH,zI,zJ, t_errnos]); rw [hKn];clear hKn Kn;simp only [QV,reduceIte,reduceCtorEq,Nat.reduceEqDiff])
 ((repeat refine Ws ?_);refine W_regionE T_ok ?_; intro Kn hKn)
 simp (maxSteps := 1000000) only [VL,VM,↓VG,reduceIte,reduceCtorEq,zA,zB,zC,zD,zE,zF,zG,zH,zI,zJ, t_errnos]
 apply call_eq (f := 15) (fn := Tryd.f15) (by kernel_rfl) (by rfl)
 ·exact sameCells_v [⟨2, 0⟩, ⟨2, 1⟩] [⟨2, 0⟩, ⟨2, 1⟩] _ (by decide) (by decide)
 simp (maxSteps := 1000000) only [VL,VM,↓VG,reduceIte,reduceCtorEq,zA,zB,zC,zD,zE,zF,zG,zH,zI,zJ, t_errnos, eq_self, decide_true, h00]
 apply call_eq (f := 9) (fn := Tryd.f9) (by kernel_rfl) (by rfl)
 ·exact vat_v 1 2 0 _
 simp (maxSteps := 1000000) only [VL,VM,↓VG,reduceIte,reduceCtorEq,zA,zB,zC,zD,zE,zF,zG,zH,zI,zJ, t_errnos]
 apply call_eq (f := 9) (fn := Tryd.f9) (by kernel_rfl) (by rfl)
 ·exact vat_v 1 0 1 _
 simp (maxSteps := 1000000) only [VL,VM,↓VG,reduceIte,reduceCtorEq,zA,zB,zC,zD,zE,zF,zG,zH,zI,zJ, t_errnos]
 apply call_eq (f := 9) (fn := Tryd.f9) (by kernel_rfl) (by rfl)
 ·exact vat_v 1 2 1 _
 simp (maxSteps := 1000000) only [VL,VM,↓VG,reduceIte,reduceCtorEq,zA,zB,zC,zD,zE,zF,zG,zH,zI,zJ, t_errnos]
 apply call_eq (f := 16) (fn := Tryd.f16) (by kernel_rfl) (by rfl)
 ·exact sameLayouts_v [⟨⟨2, 0⟩, 1⟩, ⟨⟨0, 1⟩, 1⟩, ⟨⟨2, 1⟩, 1⟩] [⟨⟨2, 0⟩, 1⟩, ⟨⟨0, 1⟩, 1⟩, ⟨⟨2, 1⟩, 1⟩] _ (by decide) (by decide)
 ((simp (maxSteps := 1000000) only [VL,VM,↓VG,reduceIte,reduceCtorEq,zA,zB,zC,zD,zE,zF,zG,zH,zI,zJ, t_errnos, litT, eq_self, decide_true]); rw [hKn];clear hKn Kn;simp only [QV,reduceIte,reduceCtorEq,Nat.reduceEqDiff])
 rw [hB, hA, List.append_assoc, List.append_assoc]
 (repeat refine Ws ?_)
 refine W_ret ?_
 try simp only [thenQ, blockQ]
 refine own_retY hYY rfl ?_ (by rfl)
 simp only [get_cons, frz, vtup, Nat.reduceEqDiff, if_true, if_false, reduceIte]
end Go.Proofs.YtnjgdlmddlinaaaDoor.Vm
