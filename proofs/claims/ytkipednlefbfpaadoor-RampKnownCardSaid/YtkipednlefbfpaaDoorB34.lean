/- A part of the proofs about the chapter of the ramps; it states no condition of its own. -/
import Derived.Test.YtkipednlefbfpaaDoorB19
import Derived.Test.YtkipednlefbfpaaDoorB29
import Derived.Test.YtkipednlefbfpaaDoorB31
import Derived.Test.YtkipednlefbfpaaDoorB33
set_option linter.unusedVariables false
set_option linter.unusedSimpArgs false
open Int renaming reduceLE → zA, reduceLT → zB, reduceToNat → zC, reduceNeg → zD
open Nat renaming reduceLT → zE, reduceEqDiff → zF, reduceAdd → zG, reduceSub → zH, reduceMul → zI, reduceLeDiff → zJ
/- The law of the ramps' examples. (Vm) -/
namespace Go.Proofs.YtkipednlefbfpaaDoor.Vm
open Go Go.Proofs
theorem addLg_no {id r : Nat} {lg : List (Nat × Nat)} (h : r ≤ id) : addLg id [r] lg = lg := by
 unfold addLg
 have hb : Nat.blt id r = false := by
  rw [← Bool.not_eq_true, Nat.blt_eq]
  omega
 simp [hb]
theorem own_retY {f : Nat} {fn : Func} {M : Mem} {L : List VObj} {Y : List (Nat × Nat)} {e : Env} {t : Nat} {X : VV} (hY : ∀ x ∈ Y, M.H.length ≤ x.1) (h1 : fn.results.toList = [.tmp t]) (hr : frz M.H.length (M.H ++ L) (get e t) = X) (h2 : refs X = []) : ownQ T f fn M (fun r M' => M' = M ∧ r = X) .ret e ⟨M.H ++ L, M.lg ++ Y⟩ [] :=
 ⟨.inr rfl, rfl, ⟨Y, rfl, hY⟩, M.H, L, rfl, rfl, [get e t], by rw [h1]; rfl, X, hr, by simp [h2], rfl, rfl⟩
theorem litT : vbin T .eql 9 (vs txY) (.p (.str ⟨⟨[121, 97, 114, 100, 32, 53, 10, 114, 97, 109, 112, 32, 48, 32, 54, 48, 32, 57, 48, 48, 10, 114, 97, 109, 112, 32, 49, 48, 32, 52, 48, 32, 53, 48, 48, 10, 99, 97, 114, 116, 32, 48, 32, 52, 48, 32, 49, 53, 32, 50, 48, 32, 56, 48, 48, 32].append [48, 32, 49, 10, 99, 97, 114, 116, 32, 48, 32, 54, 48, 32, 50, 48, 32, 50, 53, 32, 52, 48, 48, 32, 48, 32, 49, 10, 99, 97, 114, 116, 32, 53, 32, 54, 48, 32, 50, 48, 32, 51, 48, 32, 51, 48, 48, 32, 48, 10, 101, 110, 100, 32, 51, 10]⟩⟩)) = some (vb true) := by
 have h : (⟨⟨[121, 97, 114, 100, 32, 53, 10, 114, 97, 109, 112, 32, 48, 32, 54, 48, 32, 57, 48, 48, 10, 114, 97, 109, 112, 32, 49, 48, 32, 52, 48, 32, 53, 48, 48, 10, 99, 97, 114, 116, 32, 48, 32, 52, 48, 32, 49, 53, 32, 50, 48, 32, 56, 48, 48, 32].append [48, 32, 49, 10, 99, 97, 114, 116, 32, 48, 32, 54, 48, 32, 50, 48, 32, 50, 53, 32, 52, 48, 48, 32, 48, 32, 49, 10, 99, 97, 114, 116, 32, 53, 32, 54, 48, 32, 50, 48, 32, 51, 48, 32, 51, 48, 48, 32, 48, 10, 101, 110, 100, 32, 51, 10]⟩⟩ : ByteArray) = tx txY := rfl
 rw [h]
 exact (v_eqS _ _ _).trans (by simp)
theorem planF {f : Nat} {A : List VObj} {lg : List (Nat × Nat)} {k : Nat} {B : List VObj} {cs : List VV} {q : List St} {Q : VV → Mem → Prop} (hB : B[k]? = some (.obj cs)) (hc : cs = (q.map stP).flatten.map .p) (hl : q.length = 3) (h : VC Tryd.prog f [yardV aY, stsV q] ⟨A ++ B.set k .dead, lg⟩ Q) : VC Tryd.prog f [yardV aY, .bf (A.length + k) 0 3 2] ⟨A ++ B, lg⟩ Q := by
 have := VC_frzA (P := Tryd.prog) (f := f) (us := [yardV aY]) (vs := []) (M := ⟨A ++ B, lg⟩) (id := A.length + k) (xs := q.map stP) (k := 2) (n := 3) (Q := Q) (by show (A ++ B)[A.length + k]? = _; rw [hget, hB, hc]) (by simp [stP]) (by simp [hl])
 have e : (A ++ B).set (A.length + k) .dead = A ++ B.set k .dead := by rw [hset]
 simp only [e] at this
 exact this h
abbrev knL (n : Nat) : List VObj := [.obj (ycC (n + 1)), .dead, .obj (ycC (n + 3)), .dead, .obj (yardC nR0), .obj (yardC tY0), .obj (yardC sY0)]
set_option maxHeartbeats 8000000 in
set_option maxRecDepth 100000 in
theorem known_v (M : Mem) : VC Tryd.prog 3 [] M (fun r M' => M' = M ∧ r = vb true) := by
 have l1 : ∀ lg, addLg (M.H.length + 5) [M.H.length + 1] lg = lg := fun lg => addLg_no (by omega)
 have l2 : ∀ lg, addLg (M.H.length + 6) [M.H.length + 3] lg = lg := fun lg => addLg_no (by omega)
 refine VC_own' T_ok (f := 3) (fn := Tryd.f3) (by kernel_rfl) rfl Tryd.ntmps3 (by rfl) (by rfl) ?_
 ((repeat refine Ws ?_);refine W_regionE T_ok ?_; intro Kn hKn)
 ((simp (maxSteps := 1000000) only [VL,VM,↓VG,reduceIte,reduceCtorEq,zA,zB,zC,zD,zE,zF,zG,zH,zI,zJ]); rw [hKn];clear hKn Kn;simp only [QV,reduceIte,reduceCtorEq,Nat.reduceEqDiff])
 ((repeat refine Ws ?_);refine W_regionE T_ok ?_; intro Kn hKn)
 simp (maxSteps := 1000000) only [VL,VM,↓VG,reduceIte,reduceCtorEq,zA,zB,zC,zD,zE,zF,zG,zH,zI,zJ]
 apply call_eq (f := 4) (fn := Tryd.f4) (by kernel_rfl) (by rfl)
 ·exact yard_v _
 simp (maxSteps := 1000000) only [VL,VM,↓VG,reduceIte,reduceCtorEq,zA,zB,zC,zD,zE,zF,zG,zH,zI,zJ]
 refine fn_call (f := 4) (fn := Tryd.f4) (by kernel_rfl) (by rfl) ?_
 refine (yard_yc _).mono ?_
 rintro _ _ ⟨⟨Y1, rfl, hY1⟩, rfl⟩
 simp (maxSteps := 1000000) only [VL,VM,↓VG,reduceIte,reduceCtorEq,zA,zB,zC,zD,zE,zF,zG,zH,zI,zJ]
 refine fn_call (f := 4) (fn := Tryd.f4) (by kernel_rfl) (by rfl) ?_
 refine (yard_yc _).mono ?_
 rintro _ _ ⟨⟨Y2, rfl, hY2⟩, rfl⟩
 ((simp (maxSteps := 1000000) only [VL,VM,↓VG,reduceIte,reduceCtorEq,zA,zB,zC,zD,zE,zF,zG,zH,zI,zJ, l1, l2]); rw [hKn];clear hKn Kn;simp only [QV,reduceIte,reduceCtorEq,Nat.reduceEqDiff])
 simp only [List.length_append, List.length_cons, List.length_nil, Nat.reduceAdd] at hY1 hY2
 obtain ⟨YY, hYY⟩ : ∃ YY, YY = Y1 ++ Y2 := ⟨_, rfl⟩
 have hY : ∀ e ∈ YY, M.H.length ≤ e.1 := fun e he => by
  rw [hYY] at he
  rcases List.mem_append.1 he with h | h
  ·exact hY1 e h
  ·have := hY2 e h; omega
 rw [← hYY]
 clear hYY hY1 hY2
 (repeat refine Ws ?_)
 refine W_drawE T_ok [] (by kernel_rfl) (by kernel_rfl) ?_
 intro Kn hKn
 generalize hi : mkPlan _ = infs
 cbv at hi
 subst hi
 simp (maxSteps := 1000000) only [VL,VM,↓VG,reduceIte,reduceCtorEq,zA,zB,zC,zD,zE,zF,zG,zH,zI,zJ, l1, l2]
 apply call_d (f := 5) (fn := Tryd.f5) (by kernel_rfl) (by rfl)
 ·exact span_v 0 20 _
 ((simp (maxSteps := 1000000) only [VL,VM,↓VG,reduceIte,reduceCtorEq,zA,zB,zC,zD,zE,zF,zG,zH,zI,zJ, l1, l2]); rw [hKn];clear hKn Kn;simp only [QV,reduceIte,reduceCtorEq,Nat.reduceEqDiff])
 (repeat refine Ws ?_)
 refine W_sfobj (id := M.H.length + 1) (off := 5) (k := 1) (xs := [[.int .i64 1], [.int .i64 0]]) (by rw [hget]; rfl) rfl ?_
 simp only [hset, List.set_cons_succ, List.set_cons_zero]
 refine W_frz1 (id := M.H.length + 1) (n := 3) (k := 6) (o := M.H.length + 5) (j := 1) (xs := tY0.carts.map ctP) (by rw [hget]; rfl) (by rw [hget]; rfl) rfl (by simp [ctP]) rfl (by omega) ?_
 simp only [hset, List.set_cons_succ, List.set_cons_zero]
 refine W_frz1 (id := M.H.length + 3) (n := 3) (k := 6) (o := M.H.length + 6) (j := 1) (xs := sY0.carts.map ctP) (by rw [hget]; rfl) (by rw [hget]; rfl) rfl (by simp [ctP]) rfl (by omega) ?_
 simp only [hset, List.set_cons_succ, List.set_cons_zero]
 refine W_nilobj (id := M.H.length + 4) (off := 0) (k := 3) (k0 := 0) (cs := [.sf 0 [], ctsV aY.carts, vi 5]) (by rw [hget]; rfl) rfl ?_
 simp only [hset, List.set_cons_succ, List.set_cons_zero]
 refine W_eqM (M' := ⟨M.H ++ knL M.H.length, M.lg ++ YY⟩) rfl ?_
 refine WCode.weak (e' := [(1, .ptr (M.H.length + 4) 0), (2, .ptr (M.H.length + 5) 0), (3, .ptr (M.H.length + 6) 0)]) ?_ (Sub.ok ⟨rfl, rfl, rfl, trivial⟩)
 ((repeat refine Ws ?_);refine W_regionE T_ok ?_; intro Kn hKn)
 simp (maxSteps := 1000000) only [VL,VM,↓VG,reduceIte,reduceCtorEq,zA,zB,zC,zD,zE,zF,zG,zH,zI,zJ]
 apply call_eq (f := 6) (fn := Tryd.f6) (by kernel_rfl) (by rfl)
 ·exact awake_v _
 simp (maxSteps := 1000000) only [VL,VM,↓VG,reduceIte,reduceCtorEq,zA,zB,zC,zD,zE,zF,zG,zH,zI,zJ]
 apply call_eq (f := 4) (fn := Tryd.f4) (by kernel_rfl) (by rfl)
 ·exact yard_v _
 simp (maxSteps := 1000000) only [VL,VM,↓VG,reduceIte,reduceCtorEq,zA,zB,zC,zD,zE,zF,zG,zH,zI,zJ]
 apply call_eq (f := 7) (fn := Tryd.f7) (by kernel_rfl) (by rfl)
 ·exact check_v aY _ (by decide) (by decide) (by decide)
 simp (maxSteps := 1000000) only [VL,VM,↓VG,reduceIte,reduceCtorEq,zA,zB,zC,zD,zE,zF,zG,zH,zI,zJ, aY_err]
 apply call_eq (f := 7) (fn := Tryd.f7) (by kernel_rfl) (by rfl)
 ·exact check_v nR0 _ (by decide) (by decide) (by decide)
 simp (maxSteps := 1000000) only [VL,VM,↓VG,reduceIte,reduceCtorEq,zA,zB,zC,zD,zE,zF,zG,zH,zI,zJ, nR0_err]
 apply call_eq (f := 7) (fn := Tryd.f7) (by kernel_rfl) (by rfl)
 ·exact check_v tY0 _ (by decide) (by decide) (by decide)
 simp (maxSteps := 1000000) only [VL,VM,↓VG,reduceIte,reduceCtorEq,zA,zB,zC,zD,zE,zF,zG,zH,zI,zJ, tY0_err]
 apply call_eq (f := 7) (fn := Tryd.f7) (by kernel_rfl) (by rfl)
 ·exact check_v sY0 _ (by decide) (by decide) (by decide)
 ((simp (maxSteps := 1000000) only [VL,VM,↓VG,reduceIte,reduceCtorEq,zA,zB,zC,zD,zE,zF,zG,zH,zI,zJ, sY0_err]); rw [hKn];clear hKn Kn;simp only [QV,reduceIte,reduceCtorEq,Nat.reduceEqDiff])
 ((repeat refine Ws ?_);refine Wf (by first|rfl|simp only [EV,zF,reduceIte]) ?_)
 (((repeat refine Ws ?_);refine W_skip ?_); simp only [QV,reduceIte,reduceCtorEq,Nat.reduceEqDiff])
 refine WCode.weak (e' := []) ?_ (Sub.ok trivial)
 obtain ⟨L, hL⟩ : ∃ L, L = knL M.H.length := ⟨_, rfl⟩
 rw [← hL]
 obtain ⟨A, hA⟩ : ∃ A, A = M.H ++ L := ⟨_, rfl⟩
 rw [← hA]
 ((repeat refine Ws ?_);refine W_regionE T_ok ?_; intro Kn hKn)
 simp (maxSteps := 1000000) only [VL,VM,↓VG,reduceIte,reduceCtorEq,zA,zB,zC,zD,zE,zF,zG,zH,zI,zJ]
 apply call_eq (f := 8) (fn := Tryd.f8) (by kernel_rfl) (by rfl)
 ·exact plan_b _
 simp (maxSteps := 1000000) only [VL,VM,↓VG,reduceIte,reduceCtorEq,zA,zB,zC,zD,zE,zF,zG,zH,zI,zJ]
 apply call_eq (f := 8) (fn := Tryd.f8) (by kernel_rfl) (by rfl)
 ·exact plan_b _
 ((simp (maxSteps := 1000000) only [VL,VM,↓VG,reduceIte,reduceCtorEq,zA,zB,zC,zD,zE,zF,zG,zH,zI,zJ]); rw [hKn];clear hKn Kn;simp only [QV,reduceIte,reduceCtorEq,Nat.reduceEqDiff])
 ((repeat refine Ws ?_);refine W_regionE T_ok ?_; intro Kn hKn)
 ((simp (maxSteps := 1000000) only [VL,VM,↓VG,reduceIte,reduceCtorEq,zA,zB,zC,zD,zE,zF,zG,zH,zI,zJ]); rw [hKn];clear hKn Kn;simp only [QV,reduceIte,reduceCtorEq,Nat.reduceEqDiff])
 ((repeat refine Ws ?_);refine W_regionE T_ok ?_; intro Kn hKn)
 simp (maxSteps := 1000000) only [VL,VM,↓VG,reduceIte,reduceCtorEq,zA,zB,zC,zD,zE,zF,zG,zH,zI,zJ]
 apply call_eq (f := 4) (fn := Tryd.f4) (by kernel_rfl) (by rfl)
 ·exact yard_v _
 simp (maxSteps := 1000000) only [VL,VM,↓VG,reduceIte,reduceCtorEq,zA,zB,zC,zD,zE,zF,zG,zH,zI,zJ]
 apply call_eq (f := 8) (fn := Tryd.f8) (by kernel_rfl) (by rfl)
 ·exact plan_v _
 simp (maxSteps := 1000000) only [VL,VM,↓VG,reduceIte,reduceCtorEq,zA,zB,zC,zD,zE,zF,zG,zH,zI,zJ]
 apply call_eq (f := 9) (fn := Tryd.f9) (by kernel_rfl) (by rfl)
 ·exact checkPlan_v aY aP _ aY_len.1 aY_len.2.1 aY_len.2.2 (by decide)
 simp (maxSteps := 1000000) only [VL,VM,↓VG,reduceIte,reduceCtorEq,zA,zB,zC,zD,zE,zF,zG,zH,zI,zJ, aP_err]
 apply call_eq (f := 4) (fn := Tryd.f4) (by kernel_rfl) (by rfl)
 ·exact yard_v _
 simp (maxSteps := 1000000) only [VL,VM,↓VG,reduceIte,reduceCtorEq,zA,zB,zC,zD,zE,zF,zG,zH,zI,zJ]
 apply call_eq (f := 8) (fn := Tryd.f8) (by kernel_rfl) (by rfl)
 ·exact plan_v _
 simp (maxSteps := 1000000) only [VL,VM,↓VG,reduceIte,reduceCtorEq,zA,zB,zC,zD,zE,zF,zG,zH,zI,zJ]
 apply call_eq (f := 9) (fn := Tryd.f9) (by kernel_rfl) (by rfl)
 ·exact checkPlan_v aY [⟨0, 0⟩, ⟨1, 10⟩] _ aY_len.1 aY_len.2.1 aY_len.2.2 (by decide)
 simp (maxSteps := 1000000) only [VL,VM,↓VG,reduceIte,reduceCtorEq,zA,zB,zC,zD,zE,zF,zG,zH,zI,zJ, twoP_err]
 apply call_eq (f := 4) (fn := Tryd.f4) (by kernel_rfl) (by rfl)
 ·exact yard_v _
 simp (maxSteps := 1000000) only [VL,VM,↓VG,reduceIte,reduceCtorEq,zA,zB,zC,zD,zE,zF,zG,zH,zI,zJ]
 apply call_eq (f := 9) (fn := Tryd.f9) (by kernel_rfl) (by rfl)
 ·exact planF (A := A) (k := 0) (q := wP0) rfl rfl rfl (checkPlan_v aY wP0 _ aY_len.1 aY_len.2.1 aY_len.2.2 (by decide))
 simp (maxSteps := 1000000) only [VL,VM,↓VG,reduceIte,reduceCtorEq,zA,zB,zC,zD,zE,zF,zG,zH,zI,zJ, wP0_err]
 apply call_eq (f := 4) (fn := Tryd.f4) (by kernel_rfl) (by rfl)
 ·exact yard_v _
 simp (maxSteps := 1000000) only [VL,VM,↓VG,reduceIte,reduceCtorEq,zA,zB,zC,zD,zE,zF,zG,zH,zI,zJ]
 apply call_eq (f := 9) (fn := Tryd.f9) (by kernel_rfl) (by rfl)
 ·exact planF (A := A) (k := 1) (q := oP0) rfl rfl rfl (checkPlan_v aY oP0 _ aY_len.1 aY_len.2.1 aY_len.2.2 (by decide))
 ((simp (maxSteps := 1000000) only [VL,VM,↓VG,reduceIte,reduceCtorEq,zA,zB,zC,zD,zE,zF,zG,zH,zI,zJ, oP0_err]); rw [hKn];clear hKn Kn;simp only [QV,reduceIte,reduceCtorEq,Nat.reduceEqDiff])
 ((repeat refine Ws ?_);refine Wf (by first|rfl|simp only [EV,zF,reduceIte]) ?_)
 (((repeat refine Ws ?_);refine W_skip ?_); simp only [QV,reduceIte,reduceCtorEq,Nat.reduceEqDiff])
 refine WCode.weak (e' := []) ?_ (Sub.ok trivial)
 obtain ⟨A2, hA2⟩ : ∃ A2, A2 = A ++ [VObj.dead, VObj.dead] := ⟨_, rfl⟩
 rw [← hA2]
 ((repeat refine Ws ?_);refine W_regionE T_ok ?_; intro Kn hKn)
 ((simp (maxSteps := 1000000) only [VL,VM,↓VG,reduceIte,reduceCtorEq,zA,zB,zC,zD,zE,zF,zG,zH,zI,zJ]); rw [hKn];clear hKn Kn;simp only [QV,reduceIte,reduceCtorEq,Nat.reduceEqDiff])
 ((repeat refine Ws ?_);refine W_regionE T_ok ?_; intro Kn hKn)
 ((simp (maxSteps := 1000000) only [VL,VM,↓VG,reduceIte,reduceCtorEq,zA,zB,zC,zD,zE,zF,zG,zH,zI,zJ]); rw [hKn];clear hKn Kn;simp only [QV,reduceIte,reduceCtorEq,Nat.reduceEqDiff])
 ((repeat refine Ws ?_);refine W_block ?_; (repeat refine Ws ?_)); refine W_loopS (fun s : Nat × List VObj => [(6, .sf 1 [[.int .i64 25], [.int .i64 20], [.int .i64 19]]), (7, .sf 1 [[.int .i64 1], [.int .i64 3], [.int .i64 2]]), (8, vi s.1)]) (fun s => ⟨A2 ++ s.2, M.lg ++ YY⟩) (fun s => 3 - s.1) (fun s => s.1 ≤ 3) (0, []) (by simp) ⟨rfl, rfl, rfl, trivial⟩ (by simp) ?_
 rintro ⟨i, junk⟩ hi
 simp only at hi
 obtain ⟨B, hB⟩ : ∃ B, B = A2 ++ junk := ⟨_, rfl⟩
 rw [← hB]
 obtain rfl | rfl | rfl | rfl : i = 0 ∨ i = 1 ∨ i = 2 ∨ i = 3 := by omega
 ·have k1 : -9223372036854775808 ≤ ((0 : Nat) : Int) + 1 ∧ ((0 : Nat) : Int) + 1 < 9223372036854775808 := by decide
  ((repeat refine Ws ?_);refine W_regionE T_ok ?_; intro Kn hKn)
  ((simp (maxSteps := 1000000) only [VL,VM,↓VG,reduceIte,reduceCtorEq,zA,zB,zC,zD,zE,zF,zG,zH,zI,zJ]); rw [hKn];clear hKn Kn;simp only [QV,reduceIte,reduceCtorEq,Nat.reduceEqDiff])
  ((repeat refine Ws ?_);refine Wt (by first|rfl|simp only [EV,zF,reduceIte]) ?_)
  (((repeat refine Ws ?_);refine W_skip ?_); simp only [QV,reduceIte,reduceCtorEq,Nat.reduceEqDiff])
  ((repeat refine Ws ?_);refine W_block ?_)
  ((repeat refine Ws ?_);refine W_regionE T_ok ?_; intro Kn hKn)
  simp (maxSteps := 1000000) only [VL,VM,↓VG,reduceIte,reduceCtorEq,zA,zB,zC,zD,zE,zF,zG,zH,zI,zJ]
  apply call_eq (f := 8) (fn := Tryd.f8) (by kernel_rfl) (by rfl)
  ·exact plan_b _
  ((simp (maxSteps := 1000000) only [VL,VM,↓VG,reduceIte,reduceCtorEq,zA,zB,zC,zD,zE,zF,zG,zH,zI,zJ]); rw [hKn];clear hKn Kn;simp only [QV,reduceIte,reduceCtorEq,Nat.reduceEqDiff])
  ((repeat refine Ws ?_);refine W_regionE T_ok ?_; intro Kn hKn)
  ((simp (maxSteps := 1000000) only [VL,VM,↓VG,reduceIte,reduceCtorEq,zA,zB,zC,zD,zE,zF,zG,zH,zI,zJ]); rw [hKn];clear hKn Kn;simp only [QV,reduceIte,reduceCtorEq,Nat.reduceEqDiff])
  ((repeat refine Ws ?_);refine W_regionE T_ok ?_; intro Kn hKn)
  simp (maxSteps := 1000000) only [VL,VM,↓VG,reduceIte,reduceCtorEq,zA,zB,zC,zD,zE,zF,zG,zH,zI,zJ]
  apply call_eq (f := 4) (fn := Tryd.f4) (by kernel_rfl) (by rfl)
  ·exact yard_v _
  simp (maxSteps := 1000000) only [VL,VM,↓VG,reduceIte,reduceCtorEq,zA,zB,zC,zD,zE,zF,zG,zH,zI,zJ]
  apply call_eq (f := 10) (fn := Tryd.f10) (by kernel_rfl) (by rfl)
  ·exact planF (A := B) (k := 0) (q := hP0 25) rfl rfl rfl (pholds_v aY (hP0 25) _ aY_len.1 aY_len.2.1 aY_len.2.2 (by decide))
  rw [hP25]
  ((simp (maxSteps := 1000000) only [VL,VM,↓VG,reduceIte,reduceCtorEq,zA,zB,zC,zD,zE,zF,zG,zH,zI,zJ]); rw [hKn];clear hKn Kn;simp only [QV,reduceIte,reduceCtorEq,Nat.reduceEqDiff])
  ((repeat refine Ws ?_);refine W_regionE T_ok ?_; intro Kn hKn)
  ((simp (maxSteps := 1000000) only [VL,VM,↓VG,reduceIte,reduceCtorEq,zA,zB,zC,zD,zE,zF,zG,zH,zI,zJ]); rw [hKn];clear hKn Kn;simp only [QV,reduceIte,reduceCtorEq,Nat.reduceEqDiff])
  ((repeat refine Ws ?_);refine Wf (by first|rfl|simp only [EV,zF,reduceIte]) ?_)
  (((repeat refine Ws ?_);refine W_skip ?_); simp only [QV,reduceIte,reduceCtorEq,Nat.reduceEqDiff])
  ((repeat refine Ws ?_);refine W_regionE T_ok ?_; intro Kn hKn)
  ((simp (maxSteps := 1000000) only [VL,VM,↓VG,reduceIte,reduceCtorEq,zA,zB,zC,zD,zE,zF,zG,zH,zI,zJ, k1]); rw [hKn];clear hKn Kn;simp only [QV,reduceIte,reduceCtorEq,Nat.reduceEqDiff])
  refine LoopK.mk (1, junk ++ [.dead]) (by simp) (by simp) ⟨rfl, rfl, rfl, trivial⟩ (by rw [hB]; simp)
 ·have k1 : -9223372036854775808 ≤ ((1 : Nat) : Int) + 1 ∧ ((1 : Nat) : Int) + 1 < 9223372036854775808 := by decide
  ((repeat refine Ws ?_);refine W_regionE T_ok ?_; intro Kn hKn)
  ((simp (maxSteps := 1000000) only [VL,VM,↓VG,reduceIte,reduceCtorEq,zA,zB,zC,zD,zE,zF,zG,zH,zI,zJ]); rw [hKn];clear hKn Kn;simp only [QV,reduceIte,reduceCtorEq,Nat.reduceEqDiff])
  ((repeat refine Ws ?_);refine Wt (by first|rfl|simp only [EV,zF,reduceIte]) ?_)
  (((repeat refine Ws ?_);refine W_skip ?_); simp only [QV,reduceIte,reduceCtorEq,Nat.reduceEqDiff])
  ((repeat refine Ws ?_);refine W_block ?_)
  ((repeat refine Ws ?_);refine W_regionE T_ok ?_; intro Kn hKn)
  simp (maxSteps := 1000000) only [VL,VM,↓VG,reduceIte,reduceCtorEq,zA,zB,zC,zD,zE,zF,zG,zH,zI,zJ]
  apply call_eq (f := 8) (fn := Tryd.f8) (by kernel_rfl) (by rfl)
  ·exact plan_b _
  ((simp (maxSteps := 1000000) only [VL,VM,↓VG,reduceIte,reduceCtorEq,zA,zB,zC,zD,zE,zF,zG,zH,zI,zJ]); rw [hKn];clear hKn Kn;simp only [QV,reduceIte,reduceCtorEq,Nat.reduceEqDiff])
  ((repeat refine Ws ?_);refine W_regionE T_ok ?_; intro Kn hKn)
  ((simp (maxSteps := 1000000) only [VL,VM,↓VG,reduceIte,reduceCtorEq,zA,zB,zC,zD,zE,zF,zG,zH,zI,zJ]); rw [hKn];clear hKn Kn;simp only [QV,reduceIte,reduceCtorEq,Nat.reduceEqDiff])
  ((repeat refine Ws ?_);refine W_regionE T_ok ?_; intro Kn hKn)
  simp (maxSteps := 1000000) only [VL,VM,↓VG,reduceIte,reduceCtorEq,zA,zB,zC,zD,zE,zF,zG,zH,zI,zJ]
  apply call_eq (f := 4) (fn := Tryd.f4) (by kernel_rfl) (by rfl)
  ·exact yard_v _
  simp (maxSteps := 1000000) only [VL,VM,↓VG,reduceIte,reduceCtorEq,zA,zB,zC,zD,zE,zF,zG,zH,zI,zJ]
  apply call_eq (f := 10) (fn := Tryd.f10) (by kernel_rfl) (by rfl)
  ·exact planF (A := B) (k := 0) (q := hP0 20) rfl rfl rfl (pholds_v aY (hP0 20) _ aY_len.1 aY_len.2.1 aY_len.2.2 (by decide))
  rw [hP20]
  ((simp (maxSteps := 1000000) only [VL,VM,↓VG,reduceIte,reduceCtorEq,zA,zB,zC,zD,zE,zF,zG,zH,zI,zJ]); rw [hKn];clear hKn Kn;simp only [QV,reduceIte,reduceCtorEq,Nat.reduceEqDiff])
  ((repeat refine Ws ?_);refine W_regionE T_ok ?_; intro Kn hKn)
  ((simp (maxSteps := 1000000) only [VL,VM,↓VG,reduceIte,reduceCtorEq,zA,zB,zC,zD,zE,zF,zG,zH,zI,zJ]); rw [hKn];clear hKn Kn;simp only [QV,reduceIte,reduceCtorEq,Nat.reduceEqDiff])
  ((repeat refine Ws ?_);refine Wf (by first|rfl|simp only [EV,zF,reduceIte]) ?_)
  (((repeat refine Ws ?_);refine W_skip ?_); simp only [QV,reduceIte,reduceCtorEq,Nat.reduceEqDiff])
  ((repeat refine Ws ?_);refine W_regionE T_ok ?_; intro Kn hKn)
  ((simp (maxSteps := 1000000) only [VL,VM,↓VG,reduceIte,reduceCtorEq,zA,zB,zC,zD,zE,zF,zG,zH,zI,zJ, k1]); rw [hKn];clear hKn Kn;simp only [QV,reduceIte,reduceCtorEq,Nat.reduceEqDiff])
  refine LoopK.mk (2, junk ++ [.dead]) (by simp) (by simp) ⟨rfl, rfl, rfl, trivial⟩ (by rw [hB]; simp)
 ·have k1 : -9223372036854775808 ≤ ((2 : Nat) : Int) + 1 ∧ ((2 : Nat) : Int) + 1 < 9223372036854775808 := by decide
  ((repeat refine Ws ?_);refine W_regionE T_ok ?_; intro Kn hKn)
  ((simp (maxSteps := 1000000) only [VL,VM,↓VG,reduceIte,reduceCtorEq,zA,zB,zC,zD,zE,zF,zG,zH,zI,zJ]); rw [hKn];clear hKn Kn;simp only [QV,reduceIte,reduceCtorEq,Nat.reduceEqDiff])
  ((repeat refine Ws ?_);refine Wt (by first|rfl|simp only [EV,zF,reduceIte]) ?_)
  (((repeat refine Ws ?_);refine W_skip ?_); simp only [QV,reduceIte,reduceCtorEq,Nat.reduceEqDiff])
  ((repeat refine Ws ?_);refine W_block ?_)
  ((repeat refine Ws ?_);refine W_regionE T_ok ?_; intro Kn hKn)
  simp (maxSteps := 1000000) only [VL,VM,↓VG,reduceIte,reduceCtorEq,zA,zB,zC,zD,zE,zF,zG,zH,zI,zJ]
  apply call_eq (f := 8) (fn := Tryd.f8) (by kernel_rfl) (by rfl)
  ·exact plan_b _
  ((simp (maxSteps := 1000000) only [VL,VM,↓VG,reduceIte,reduceCtorEq,zA,zB,zC,zD,zE,zF,zG,zH,zI,zJ]); rw [hKn];clear hKn Kn;simp only [QV,reduceIte,reduceCtorEq,Nat.reduceEqDiff])
  ((repeat refine Ws ?_);refine W_regionE T_ok ?_; intro Kn hKn)
  ((simp (maxSteps := 1000000) only [VL,VM,↓VG,reduceIte,reduceCtorEq,zA,zB,zC,zD,zE,zF,zG,zH,zI,zJ]); rw [hKn];clear hKn Kn;simp only [QV,reduceIte,reduceCtorEq,Nat.reduceEqDiff])
  ((repeat refine Ws ?_);refine W_regionE T_ok ?_; intro Kn hKn)
  simp (maxSteps := 1000000) only [VL,VM,↓VG,reduceIte,reduceCtorEq,zA,zB,zC,zD,zE,zF,zG,zH,zI,zJ]
  apply call_eq (f := 4) (fn := Tryd.f4) (by kernel_rfl) (by rfl)
  ·exact yard_v _
  simp (maxSteps := 1000000) only [VL,VM,↓VG,reduceIte,reduceCtorEq,zA,zB,zC,zD,zE,zF,zG,zH,zI,zJ]
  apply call_eq (f := 10) (fn := Tryd.f10) (by kernel_rfl) (by rfl)
  ·exact planF (A := B) (k := 0) (q := hP0 19) rfl rfl rfl (pholds_v aY (hP0 19) _ aY_len.1 aY_len.2.1 aY_len.2.2 (by decide))
  rw [hP19]
  ((simp (maxSteps := 1000000) only [VL,VM,↓VG,reduceIte,reduceCtorEq,zA,zB,zC,zD,zE,zF,zG,zH,zI,zJ]); rw [hKn];clear hKn Kn;simp only [QV,reduceIte,reduceCtorEq,Nat.reduceEqDiff])
  ((repeat refine Ws ?_);refine W_regionE T_ok ?_; intro Kn hKn)
  ((simp (maxSteps := 1000000) only [VL,VM,↓VG,reduceIte,reduceCtorEq,zA,zB,zC,zD,zE,zF,zG,zH,zI,zJ]); rw [hKn];clear hKn Kn;simp only [QV,reduceIte,reduceCtorEq,Nat.reduceEqDiff])
  ((repeat refine Ws ?_);refine Wf (by first|rfl|simp only [EV,zF,reduceIte]) ?_)
  (((repeat refine Ws ?_);refine W_skip ?_); simp only [QV,reduceIte,reduceCtorEq,Nat.reduceEqDiff])
  ((repeat refine Ws ?_);refine W_regionE T_ok ?_; intro Kn hKn)
  ((simp (maxSteps := 1000000) only [VL,VM,↓VG,reduceIte,reduceCtorEq,zA,zB,zC,zD,zE,zF,zG,zH,zI,zJ, k1]); rw [hKn];clear hKn Kn;simp only [QV,reduceIte,reduceCtorEq,Nat.reduceEqDiff])
  refine LoopK.mk (3, junk ++ [.dead]) (by simp) (by simp) ⟨rfl, rfl, rfl, trivial⟩ (by rw [hB]; simp)
 ((repeat refine Ws ?_);refine W_regionE T_ok ?_; intro Kn hKn)
 ((simp (maxSteps := 1000000) only [VL,VM,↓VG,reduceIte,reduceCtorEq,zA,zB,zC,zD,zE,zF,zG,zH,zI,zJ]); rw [hKn];clear hKn Kn;simp only [QV,reduceIte,reduceCtorEq,Nat.reduceEqDiff])
 ((repeat refine Ws ?_);refine Wf (by first|rfl|simp only [EV,zF,reduceIte]) ?_)
 (((repeat refine Ws ?_);refine W_exit ?_); simp only [QV,reduceIte,reduceCtorEq,Nat.reduceEqDiff])
 ((repeat refine Ws ?_);refine W_regionE T_ok ?_; intro Kn hKn)
 simp (maxSteps := 1000000) only [VL,VM,↓VG,reduceIte,reduceCtorEq,zA,zB,zC,zD,zE,zF,zG,zH,zI,zJ]
 apply call_eq (f := 4) (fn := Tryd.f4) (by kernel_rfl) (by rfl)
 ·exact yard_v _
 simp (maxSteps := 1000000) only [VL,VM,↓VG,reduceIte,reduceCtorEq,zA,zB,zC,zD,zE,zF,zG,zH,zI,zJ]
 apply call_eq (f := 8) (fn := Tryd.f8) (by kernel_rfl) (by rfl)
 ·exact plan_v _
 simp (maxSteps := 1000000) only [VL,VM,↓VG,reduceIte,reduceCtorEq,zA,zB,zC,zD,zE,zF,zG,zH,zI,zJ]
 apply call_eq (f := 11) (fn := Tryd.f11) (by kernel_rfl) (by rfl)
 ·exact away_v aY aP _ aY_len.1 aY_len.2.1 aY_len.2.2 (by decide)
 rw [aP_away]
 ((simp (maxSteps := 1000000) only [VL,VM,↓VG,reduceIte,reduceCtorEq,zA,zB,zC,zD,zE,zF,zG,zH,zI,zJ]); rw [hKn];clear hKn Kn;simp only [QV,reduceIte,reduceCtorEq,Nat.reduceEqDiff])
 ((repeat refine Ws ?_);refine W_regionE T_ok ?_; intro Kn hKn)
 simp (maxSteps := 1000000) only [VL,VM,↓VG,reduceIte,reduceCtorEq,zA,zB,zC,zD,zE,zF,zG,zH,zI,zJ]
 apply call_eq (f := 4) (fn := Tryd.f4) (by kernel_rfl) (by rfl)
 ·exact yard_v _
 simp (maxSteps := 1000000) only [VL,VM,↓VG,reduceIte,reduceCtorEq,zA,zB,zC,zD,zE,zF,zG,zH,zI,zJ]
 apply call_eq (f := 12) (fn := Tryd.f12) (by kernel_rfl) (by rfl)
 ·exact pstuck_v aY _ aY_len.1 aY_len.2.1 aY_len.2.2
 rw [aY_stuck]
 ((simp (maxSteps := 1000000) only [VL,VM,↓VG,reduceIte,reduceCtorEq,zA,zB,zC,zD,zE,zF,zG,zH,zI,zJ]); rw [hKn];clear hKn Kn;simp only [QV,reduceIte,reduceCtorEq,Nat.reduceEqDiff])
 ((repeat refine Ws ?_);refine W_regionE T_ok ?_; intro Kn hKn)
 simp (maxSteps := 1000000) only [VL,VM,↓VG,reduceIte,reduceCtorEq,zA,zB,zC,zD,zE,zF,zG,zH,zI,zJ]
 apply call_eq (f := 14) (fn := Tryd.f14) (by kernel_rfl) (by rfl)
 ·exact narrow_v _
 simp (maxSteps := 1000000) only [VL,VM,↓VG,reduceIte,reduceCtorEq,zA,zB,zC,zD,zE,zF,zG,zH,zI,zJ]
 apply call_eq (f := 13) (fn := Tryd.f13) (by kernel_rfl) (by rfl)
 ·exact pserve_v nY _ nY_len.1 nY_len.2.1 nY_len.2.2
 rw [serveV, nY_serve]
 ((simp (maxSteps := 1000000) only [VL,VM,↓VG,reduceIte,reduceCtorEq,zA,zB,zC,zD,zE,zF,zG,zH,zI,zJ]); rw [hKn];clear hKn Kn;simp only [QV,reduceIte,reduceCtorEq,Nat.reduceEqDiff])
 ((repeat refine Ws ?_);refine W_regionE T_ok ?_; intro Kn hKn)
 simp (maxSteps := 1000000) only [VL,VM,↓VG,reduceIte,reduceCtorEq,zA,zB,zC,zD,zE,zF,zG,zH,zI,zJ]
 apply call_eq (f := 4) (fn := Tryd.f4) (by kernel_rfl) (by rfl)
 ·exact yard_v _
 simp (maxSteps := 1000000) only [VL,VM,↓VG,reduceIte,reduceCtorEq,zA,zB,zC,zD,zE,zF,zG,zH,zI,zJ]
 apply call_eq (f := 15) (fn := Tryd.f15) (by kernel_rfl) (by rfl)
 ·exact pwrite_v aY _ aY_len.1 aY_len.2.1 aY_len.2.2
 rw [aY_write, aY_err]
 ((simp (maxSteps := 1000000) only [VL,VM,↓VG,reduceIte,reduceCtorEq,zA,zB,zC,zD,zE,zF,zG,zH,zI,zJ]); rw [hKn];clear hKn Kn;simp only [QV,reduceIte,reduceCtorEq,Nat.reduceEqDiff])
 ((repeat refine Ws ?_);refine W_regionE T_ok ?_; intro Kn hKn)
 simp (maxSteps := 1000000) only [VL,VM,↓VG,reduceIte,reduceCtorEq,zA,zB,zC,zD,zE,zF,zG,zH,zI,zJ]
 apply call_eq (f := 5) (fn := Tryd.f5) (by kernel_rfl) (by rfl)
 ·exact span_v 15 20 _
 simp (maxSteps := 1000000) only [VL,VM,↓VG,reduceIte,reduceCtorEq,zA,zB,zC,zD,zE,zF,zG,zH,zI,zJ]
 apply call_eq (f := 5) (fn := Tryd.f5) (by kernel_rfl) (by rfl)
 ·exact span_v 30 35 _
 simp (maxSteps := 1000000) only [VL,VM,↓VG,reduceIte,reduceCtorEq,zA,zB,zC,zD,zE,zF,zG,zH,zI,zJ]
 apply call_eq (f := 5) (fn := Tryd.f5) (by kernel_rfl) (by rfl)
 ·exact span_v 45 55 _
 simp (maxSteps := 1000000) only [VL,VM,↓VG,reduceIte,reduceCtorEq,zA,zB,zC,zD,zE,zF,zG,zH,zI,zJ]
 apply call_eq (f := 16) (fn := Tryd.f16) (by kernel_rfl) (by rfl)
 ·exact sameSpans_v [⟨15, 20⟩, ⟨30, 35⟩, ⟨45, 55⟩] [⟨15, 20⟩, ⟨30, 35⟩, ⟨45, 55⟩] _ (by decide)
 ((simp (maxSteps := 1000000) only [VL,VM,↓VG,reduceIte,reduceCtorEq,zA,zB,zC,zD,zE,zF,zG,zH,zI,zJ, litT, eq_self, decide_true]); rw [hKn];clear hKn Kn;simp only [QV,reduceIte,reduceCtorEq,Nat.reduceEqDiff])
 rw [hB, hA2, hA, List.append_assoc, List.append_assoc]
 (repeat refine Ws ?_)
 refine W_ret ?_
 try simp only [thenQ, blockQ]
 refine own_retY hY rfl ?_ (by rfl)
 simp only [get_cons, frz, vtup, Nat.reduceEqDiff, if_true, if_false, reduceIte]
end Go.Proofs.YtkipednlefbfpaaDoor.Vm
