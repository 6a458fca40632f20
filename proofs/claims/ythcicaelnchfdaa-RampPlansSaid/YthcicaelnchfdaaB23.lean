/- A part of the proofs about the chapter of the ramps; it states no condition of its own. -/
import Derived.Test.YthcicaelnchfdaaB12
import Derived.Test.YthcicaelnchfdaaB15
import Derived.Test.YthcicaelnchfdaaB16
import Derived.Test.YthcicaelnchfdaaB22
set_option linter.unusedVariables false
set_option linter.unusedSimpArgs false
open Int renaming reduceLE → zA, reduceLT → zB, reduceToNat → zC, reduceNeg → zD
open Nat renaming reduceLT → zE, reduceEqDiff → zF, reduceAdd → zG, reduceSub → zH, reduceMul → zI, reduceLeDiff → zJ
/- The reference's best plan, on values. (Vm) -/
namespace Go.Proofs.Ythcicaelnchfdaa.Vm
open Go Go.Proofs
theorem repl_stC (n : Nat) (a b : Int) : (List.replicate n [vi a, vi b]).flatten = stC (List.replicate n ⟨a, b⟩) := by simp [stC]
theorem st_put1 {l : List St} {i : Nat} {a : Int} (h : i < l.length) : (stC l).take (i * 2) ++ vi a :: (stC l).drop (i * 2 + 1) = stC (l.set i ⟨a, (stAt l i).from_⟩) := by
 rw [← st_put h]
 congr 2
 have h1 : (stC l)[i * 2 + 1]? = some (vi (stAt l i).from_) := by
  unfold stC
  have hk : ∀ x ∈ l.map (fun s => [vi s.ramp, vi s.from_]), x.length = 2 := fun x hx => by obtain ⟨z, _, rfl⟩ := List.mem_map.1 hx; rfl
  rw [flat_get (i := i) (j := 1) hk (x := [vi (stAt l i).ramp, vi (stAt l i).from_]) (by rw [List.getElem?_map, stAt_get h]; rfl) (by omega)]
  rfl
 rw [show i * 2 + 2 = (i * 2 + 1) + 1 by omega]
 exact List.drop_eq_getElem?_toList_append.trans (by rw [h1]; rfl)
theorem served_v {y : Ya} (hy : YaV y) (M : Mem) : VC Try.prog 42 [yardV y] M (fun r M' => M' = M ∧ r = .tup [stsV ((servedR y).getD []), vb (servedR y).isSome]) := by
 have hm1 := hy.m1
 have hn1 := hy.n1
 have q1 : (y.carts.length * 16 ≤ 140737488355328) = True := eq_true (by omega)
 have q2 : (y.carts.length ≤ 9223372036854775807) = True := eq_true (by omega)
 have q3 : (y.ramps.length * 8 ≤ 140737488355328) = True := eq_true (by omega)
 have q4 : (y.ramps.length ≤ 9223372036854775807) = True := eq_true (by omega)
 obtain ⟨n, hn⟩ : ∃ n, n = y.carts.length := ⟨_, rfl⟩
 have hsv : SvOk y (List.replicate n ⟨-1, 0⟩) (List.replicate y.ramps.length 0) := by
  refine ⟨by simp [hn], by simp, fun i hi => ?_, fun r hr => ?_⟩
  ·have : stAt (List.replicate n (⟨-1, 0⟩ : St)) i = ⟨-1, 0⟩ := by
    have hi' : i < n := by simpa using hi
    simp [stAt, hi']
   rw [this]; simp
  ·have : tkAt (List.replicate y.ramps.length 0) r = 0 := by
    have hr' : r < y.ramps.length := by simpa using hr
    simp [tkAt, hr']
   rw [this]; simp
 have hun : un (List.replicate n ⟨-1, 0⟩) ≤ n := by
  unfold un
  exact Nat.le_trans List.countP_le_length (by simp)
 refine VC_own' T_ok (f := 42) (fn := Try.f42) (by kernel_rfl) rfl Try.ntmps42 (by rfl) (by rfl) ?_
 ((repeat refine Ws ?_);refine W_regionE T_ok ?_; intro Kn hKn)
 ((simp (maxSteps := 1000000) only [VL,VM,↓VG,reduceIte,reduceCtorEq,zA,zB,zC,zD,zE,zF,zG,zH,zI,zJ]); rw [hKn];clear hKn Kn;simp only [QV,reduceIte,reduceCtorEq,Nat.reduceEqDiff])
 ((repeat refine Ws ?_);refine W_regionE T_ok ?_; intro Kn hKn)
 ((simp (maxSteps := 1000000) only [VL,VM,↓VG,reduceIte,reduceCtorEq,zA,zB,zC,zD,zE,zF,zG,zH,zI,zJ, q1, q2]); rw [hKn];clear hKn Kn;simp only [QV,reduceIte,reduceCtorEq,Nat.reduceEqDiff])
 ((repeat refine Ws ?_);refine W_regionE T_ok ?_; intro Kn hKn)
 ((simp (maxSteps := 1000000) only [VL,VM,↓VG,reduceIte,reduceCtorEq,zA,zB,zC,zD,zE,zF,zG,zH,zI,zJ]); rw [hKn];clear hKn Kn;simp only [QV,reduceIte,reduceCtorEq,Nat.reduceEqDiff])
 rw [repl_stC, ← hn]
 ((repeat refine Ws ?_);refine W_block ?_; (repeat refine Ws ?_)); refine W_loopS (fun i : Nat => [(1, .ptr M.H.length 0), (4, .bf (M.H.length + 1) 0 n 2), (5, vi i)]) (fun i => ⟨M.H ++ [.obj (yardC y), .obj (stC (List.replicate i (⟨-1, 0⟩ : St) ++ List.replicate (n - i) (⟨0, 0⟩ : St)))], M.lg⟩) (fun i => n - i) (fun i => i ≤ n) 0 (Nat.zero_le _) ⟨rfl, rfl, rfl, trivial⟩ rfl ?_
 intro i hi
 have k1 : -9223372036854775808 ≤ (i : Int) + 1 ∧ (i : Int) + 1 < 9223372036854775808 := by omega
 ((repeat refine Ws ?_);refine W_regionE T_ok ?_; intro Kn hKn)
 rcases Nat.lt_or_ge i n with hlt | hge
 ·have k2 : ((i : Int) < (n : Int)) = True := eq_true (by omega)
  have hlen : (List.replicate i (⟨-1, 0⟩ : St) ++ List.replicate (n - i) (⟨0, 0⟩ : St)).length = n := by simp; omega
  have hc : (i * 2 + 1 ≤ (stC (List.replicate i (⟨-1, 0⟩ : St) ++ List.replicate (n - i) (⟨0, 0⟩ : St))).length) = True := eq_true (by rw [stC_len, hlen]; omega)
  have hset : (List.replicate i (⟨-1, 0⟩ : St) ++ List.replicate (n - i) (⟨0, 0⟩ : St)).set i ⟨-1, (stAt (List.replicate i (⟨-1, 0⟩ : St) ++ List.replicate (n - i) (⟨0, 0⟩ : St)) i).from_⟩ = List.replicate (i + 1) (⟨-1, 0⟩ : St) ++ List.replicate (n - (i + 1)) (⟨0, 0⟩ : St) := by
   have h0 : stAt (List.replicate i (⟨-1, 0⟩ : St) ++ List.replicate (n - i) (⟨0, 0⟩ : St)) i = ⟨0, 0⟩ := by
    unfold stAt
    rw [List.getD_eq_getElem?_getD, List.getElem?_append_right (by simp), List.length_replicate, Nat.sub_self, List.getElem?_replicate, if_pos (by omega)]
    rfl
   rw [h0, List.set_append_right _ _ (by simp), List.length_replicate, Nat.sub_self, show n - i = (n - (i + 1)) + 1 by omega, List.replicate_succ, List.set_cons_zero, List.replicate_succ']
   simp
  generalize List.replicate i (⟨-1, 0⟩ : St) ++ List.replicate (n - i) (⟨0, 0⟩ : St) = l at hlen hc hset ⊢
  ((simp (maxSteps := 1000000) only [VL,VM,↓VG,reduceIte,reduceCtorEq,zA,zB,zC,zD,zE,zF,zG,zH,zI,zJ, k2]); rw [hKn];clear hKn Kn;simp only [QV,reduceIte,reduceCtorEq,Nat.reduceEqDiff])
  ((repeat refine Ws ?_);refine Wt (by first|rfl|simp only [EV,zF,reduceIte]) ?_)
  (((repeat refine Ws ?_);refine W_skip ?_); simp only [QV,reduceIte,reduceCtorEq,Nat.reduceEqDiff])
  ((repeat refine Ws ?_);refine W_block ?_)
  ((repeat refine Ws ?_);refine W_regionE T_ok ?_; intro Kn hKn)
  ((simp (maxSteps := 1000000) only [VL,VM,↓VG,reduceIte,reduceCtorEq,zA,zB,zC,zD,zE,zF,zG,zH,zI,zJ, hlt, hc]); rw [hKn];clear hKn Kn;simp only [QV,reduceIte,reduceCtorEq,Nat.reduceEqDiff])
  rw [st_put1 (by omega), hset]
  ((repeat refine Ws ?_);refine W_regionE T_ok ?_; intro Kn hKn)
  ((simp (maxSteps := 1000000) only [VL,VM,↓VG,reduceIte,reduceCtorEq,zA,zB,zC,zD,zE,zF,zG,zH,zI,zJ, k1]); rw [hKn];clear hKn Kn;simp only [QV,reduceIte,reduceCtorEq,Nat.reduceEqDiff])
  exact LoopK.mk (i + 1) (by omega) (by omega) ⟨rfl, rfl, rfl, trivial⟩ rfl
 ·have k2 : ((i : Int) < (n : Int)) = False := eq_false (by omega)
  obtain rfl : i = n := by omega
  rw [Nat.sub_self, List.replicate_zero, List.append_nil]
  ((simp (maxSteps := 1000000) only [VL,VM,↓VG,reduceIte,reduceCtorEq,zA,zB,zC,zD,zE,zF,zG,zH,zI,zJ, k2]); rw [hKn];clear hKn Kn;simp only [QV,reduceIte,reduceCtorEq,Nat.reduceEqDiff])
  ((repeat refine Ws ?_);refine Wf (by first|rfl|simp only [EV,zF,reduceIte]) ?_)
  (((repeat refine Ws ?_);refine W_exit ?_); simp only [QV,reduceIte,reduceCtorEq,Nat.reduceEqDiff])
  (repeat refine Ws ?_)
  refine W_frzT (t := 4) (id := M.H.length + 1) (n := i) (k := 2) (xs := (List.replicate i (⟨-1, 0⟩ : St)).map stP) (by rw [flat_sts, hget]; rfl) rfl (fun x hx => by obtain ⟨z, _, rfl⟩ := List.mem_map.1 hx; rfl) (by simp) ?_
  simp only [hset, List.set_cons_succ, List.set_cons_zero]
  (repeat refine Ws ?_)
  refine W_drawE T_ok [] (by kernel_rfl) (by kernel_rfl) ?_
  intro Kn hKn
  generalize hi : mkPlan _ = infs
  cbv at hi
  subst hi
  simp (maxSteps := 1000000) only [VL,VM,↓VG,reduceIte,reduceCtorEq,zA,zB,zC,zD,zE,zF,zG,zH,zI,zJ, q3, q4]
  apply call_d (f := 80) (fn := Try.f80) (by kernel_rfl) (by rfl)
  ·refine VC_frzA (us := [yardV y, stsV (List.replicate i (⟨-1, 0⟩ : St))]) (vs := []) (k := 1) (xs := (List.replicate y.ramps.length (0 : Int)).map intP) ?_ ?_ ?_ (serve_v hy i _ _ _ hsv hun)
   ·rw [flat_ints, hget]
    simp
   ·intro x hx
    obtain ⟨z, _, rfl⟩ := List.mem_map.1 hx; rfl
   ·simp
  have hfin : servR y i (List.replicate i ⟨-1, 0⟩) (List.replicate y.ramps.length 0) = servedR y := by rw [servedR, hn]
  rw [hfin]
  ((simp (maxSteps := 1000000) only [VL,VM,↓VG,reduceIte,reduceCtorEq,zA,zB,zC,zD,zE,zF,zG,zH,zI,zJ]); rw [hKn];clear hKn Kn;simp only [QV,reduceIte,reduceCtorEq,Nat.reduceEqDiff])
  (repeat refine Ws ?_)
  refine W_ret ?_
  try simp only [thenQ, blockQ]
  refine own_ret2 rfl ?_ ?_ (by rfl) (by rfl)
  simp only [get_cons, frz, vtup, Nat.reduceEqDiff, if_true, if_false, reduceIte]
  rfl
theorem own_ret3 {T : Tab} {f : Nat} {fn : Func} {M : Mem} {L : List VObj} {e : Env} {t t' t'' : Nat} {X Y Z : VV} (h1 : fn.results.toList = [.tmp t, .tmp t', .tmp t'']) (hr : frz M.H.length (M.H ++ L) (get e t) = X) (hr' : frz M.H.length (M.H ++ L) (get e t') = Y) (hr'' : frz M.H.length (M.H ++ L) (get e t'') = Z) (h2 : refs X = []) (h2' : refs Y = []) (h2'' : refs Z = []) : ownQ T f fn M (fun r M' => M' = M ∧ r = .tup [X, Y, Z]) .ret e ⟨M.H ++ L, M.lg⟩ [] :=
 own_ret (vs := [get e t, get e t', get e t'']) (by rw [h1]; rfl) (by simp only [vtup, frz, frzL, hr, hr', hr'']) (by simp [refs, refsL, h2, h2', h2'']) ⟨rfl, rfl⟩
def serveV (y : Ya) : VV := .tup [stsV (serveT y).1, vi (serveT y).2.1, vi (serveT y).2.2]
theorem servedR_pb {y : Ya} (hy : YaV y) {p : List St} (h : servedR y = some p) : PB y p := by
 refine servR_pb hy y.carts.length _ _ ⟨by simp, by simp, fun i hi => ?_, fun r hr => ?_⟩ p h
 ·have hi' : i < y.carts.length := by simpa using hi
  simp [stAt, hi']
 ·have hr' : r < y.ramps.length := by simpa using hr
  simp [tkAt, hr']
end Go.Proofs.Ythcicaelnchfdaa.Vm

/- Choices of carts, on values. (Vm) -/
namespace Go.Proofs.Ythcicaelnchfdaa.Vm
open Go Go.Proofs
theorem own_retC {f : Nat} {fn : Func} {M : Mem} {L : List VObj} {Y : List (Nat × Nat)} {e : Env} {ex : Exit} {a t : Nat} {X Z : VV} (hex : ex = .normal ∨ ex = .ret) (hY : ∀ x ∈ Y, M.H.length ≤ x.1) (h1 : fn.results.toList = [.cell a t]) (hr : vload T t (get e a) ⟨M.H ++ L, M.lg ++ Y⟩ = some Z) (hZ : frz M.H.length (M.H ++ L) Z = X) (h2 : refs X = []) : ownQ T f fn M (fun r M' => M' = M ∧ r = X) ex e ⟨M.H ++ L, M.lg ++ Y⟩ [] :=
 ⟨hex, rfl, ⟨Y, rfl, hY⟩, M.H, L, rfl, rfl, [Z], by rw [h1]; simp [vresL, hr], X, hZ, by simp [h2], rfl, rfl⟩
end Go.Proofs.Ythcicaelnchfdaa.Vm

/- The reference's Stuck and Most, on values. (Vm) -/
namespace Go.Proofs.Ythcicaelnchfdaa.Vm
open Go Go.Proofs
end Go.Proofs.Ythcicaelnchfdaa.Vm
