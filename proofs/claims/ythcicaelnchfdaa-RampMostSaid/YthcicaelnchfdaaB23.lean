/- A part of the proofs about the chapter of the ramps; it states no condition of its own. -/
import Derived.Test.YthcicaelnchfdaaB12
import Derived.Test.YthcicaelnchfdaaB15
import Derived.Test.YthcicaelnchfdaaB16
import Derived.Test.YthcicaelnchfdaaB22
set_option linter.unusedVariables false
set_option linter.unusedSimpArgs false
open Int renaming reduceLE → zA, reduceLT → zB, reduceToNat → zC, reduceNeg → zD
open Nat renaming reduceLT → zE, reduceEqDiff → zF, reduceAdd → zG, reduceSub → zH, reduceMul → zI, reduceLeDiff → zJ
/- The reference's best plan, on values. (Vm) -/
namespace Go.Proofs.Ythcicaelnchfdaa.Vm
open Go Go.Proofs
theorem repl_stC (n : Nat) (a b : Int) : (List.replicate n [vi a, vi b]).flatten = stC (List.replicate n ⟨a, b⟩) := by simp [stC]
theorem st_put1 {l : List St} {i : Nat} {a : Int} (h : i < l.length) : (stC l).take (i * 2) ++ vi a :: (stC l).drop (i * 2 + 1) = stC (l.set i ⟨a, (stAt l i).from_⟩) := by
 rw [← st_put h]
 congr 2
 have h1 : (stC l)[i * 2 + 1]? = some (vi (stAt l i).from_) := by
  unfold stC
  have hk : ∀ x ∈ l.map (fun s => [vi s.ramp, vi s.from_]), x.length = 2 := fun x hx => by obtain ⟨z, _, rfl⟩ := List.mem_map.1 hx; rfl
  rw [flat_get (i := i) (j := 1) hk (x := [vi (stAt l i).ramp, vi (stAt l i).from_]) (by rw [List.getElem?_map, stAt_get h]; rfl) (by omega)]
  rfl
 rw [show i * 2 + 2 = (i * 2 + 1) + 1 by omega]
 exact List.drop_eq_getElem?_toList_append.trans (by rw [h1]; rfl)
theorem served_v {y : Ya} (hy : YaV y) (M : Mem) : VC Try.prog 42 [yardV y] M (fun r M' => M' = M ∧ r = .tup [stsV ((servedR y).getD []), vb (servedR y).isSome]) := by
 have hm1 := hy.m1
 have hn1 := hy.n1
 have q1 : (y.carts.length * 16 ≤ 140737488355328) = True := eq_true (by omega)
 have q2 : (y.carts.length ≤ 9223372036854775807) = True := eq_true (by omega)
 have q3 : (y.ramps.length * 8 ≤ 140737488355328) = True := eq_true (by omega)
 have q4 : (y.ramps.length ≤ 9223372036854775807) = True := eq_true (by omega)
 obtain ⟨n, hn⟩ : ∃ n, n = y.carts.length := ⟨_, rfl⟩
 have hsv : SvOk y (List.replicate n ⟨-1, 0⟩) (List.replicate y.ramps.length 0) := by
  refine ⟨by simp [hn], by simp, fun i hi => ?_, fun r hr => ?_⟩
  ·have : stAt (List.replicate n (⟨-1, 0⟩ : St)) i = ⟨-1, 0⟩ := by
    have hi' : i < n := by simpa using hi
    simp [stAt, hi']
   rw [this]; simp
  ·have : tkAt (List.replicate y.ramps.length 0) r = 0 := by
    have hr' : r < y.ramps.length := by simpa using hr
    simp [tkAt, hr']
   rw [this]; simp
 have hun : un (List.replicate n ⟨-1, 0⟩) ≤ n := by
  unfold un
  exact Nat.le_trans List.countP_le_length (by simp)
 refine VC_own' T_ok (f := 42) (fn := Try.f42) (by kernel_rfl) rfl Try.ntmps42 (by rfl) (by rfl) ?_
 ((repeat refine Ws ?_);refine W_regionE T_ok ?_; intro Kn hKn)
 ((simp (maxSteps := 1000000) only [VL,VM,↓VG,reduceIte,reduceCtorEq,zA,zB,zC,zD,zE,zF,zG,zH,zI,zJ]); rw [hKn]; clear hKn; clear Kn; simp only [thenQ.eq_1, thenQ.eq_2, blockQ.eq_1, blockQ.eq_2, reduceIte, reduceCtorEq, Nat.reduceEqDiff])
 ((repeat refine Ws ?_);refine W_regionE T_ok ?_; intro Kn hKn)
 ((simp (maxSteps := 1000000) only [VL,VM,↓VG,reduceIte,reduceCtorEq,zA,zB,zC,zD,zE,zF,zG,zH,zI,zJ, q1, q2]); rw [hKn]; clear hKn; clear Kn; simp only [thenQ.eq_1, thenQ.eq_2, blockQ.eq_1, blockQ.eq_2, reduceIte, reduceCtorEq, Nat.reduceEqDiff])
 ((repeat refine Ws ?_);refine W_regionE T_ok ?_; intro Kn hKn)
 ((simp (maxSteps := 1000000) only [VL,VM,↓VG,reduceIte,reduceCtorEq,zA,zB,zC,zD,zE,zF,zG,zH,zI,zJ]); rw [hKn]; clear hKn; clear Kn; simp only [thenQ.eq_1, thenQ.eq_2, blockQ.eq_1, blockQ.eq_2, reduceIte, reduceCtorEq, Nat.reduceEqDiff])
 rw [repl_stC, ← hn]
 ((repeat refine Ws ?_);refine W_block ?_; (repeat refine Ws ?_)); refine W_loopS (fun i : Nat => [(1, .ptr M.H.length 0), (4, .bf (M.H.length + 1) 0 n 2), (5, vi i)]) (fun i => ⟨M.H ++ [.obj (yardC y), .obj (stC (List.replicate i (⟨-1, 0⟩ : St) ++ List.replicate (n - i) (⟨0, 0⟩ : St)))], M.lg⟩) (fun i => n - i) (fun i => i ≤ n) 0 (Nat.zero_le _) ⟨rfl, rfl, rfl, trivial⟩ rfl ?_
 intro i hi
 have k1 : -9223372036854775808 ≤ (i : Int) + 1 ∧ (i : Int) + 1 < 9223372036854775808 := by omega
 ((repeat refine Ws ?_);refine W_regionE T_ok ?_; intro Kn hKn)
 rcases Nat.lt_or_ge i n with hlt | hge
 ·have k2 : ((i : Int) < (n : Int)) = True := eq_true (by omega)
  have hlen : (List.replicate i (⟨-1, 0⟩ : St) ++ List.replicate (n - i) (⟨0, 0⟩ : St)).length = n := by simp; omega
  have hc : (i * 2 + 1 ≤ (stC (List.replicate i (⟨-1, 0⟩ : St) ++ List.replicate (n - i) (⟨0, 0⟩ : St))).length) = True := eq_true (by rw [stC_len, hlen]; omega)
  have hset : (List.replicate i (⟨-1, 0⟩ : St) ++ List.replicate (n - i) (⟨0, 0⟩ : St)).set i ⟨-1, (stAt (List.replicate i (⟨-1, 0⟩ : St) ++ List.replicate (n - i) (⟨0, 0⟩ : St)) i).from_⟩ = List.replicate (i + 1) (⟨-1, 0⟩ : St) ++ List.replicate (n - (i + 1)) (⟨0, 0⟩ : St) := by
   have h0 : stAt (List.replicate i (⟨-1, 0⟩ : St) ++ List.replicate (n - i) (⟨0, 0⟩ : St)) i = ⟨0, 0⟩ := by
    unfold stAt
    rw [List.getD_eq_getElem?_getD, List.getElem?_append_right (by simp), List.length_replicate, Nat.sub_self, List.getElem?_replicate, if_pos (by omega)]
    rfl
   rw [h0, List.set_append_right _ _ (by simp), List.length_replicate, Nat.sub_self, show n - i = (n - (i + 1)) + 1 by omega, List.replicate_succ, List.set_cons_zero, List.replicate_succ']
   simp
  generalize List.replicate i (⟨-1, 0⟩ : St) ++ List.replicate (n - i) (⟨0, 0⟩ : St) = l at hlen hc hset ⊢
  ((simp (maxSteps := 1000000) only [VL,VM,↓VG,reduceIte,reduceCtorEq,zA,zB,zC,zD,zE,zF,zG,zH,zI,zJ, k2]); rw [hKn]; clear hKn; clear Kn; simp only [thenQ.eq_1, thenQ.eq_2, blockQ.eq_1, blockQ.eq_2, reduceIte, reduceCtorEq, Nat.reduceEqDiff])
  ((repeat refine Ws ?_);refine Wt (by first|rfl|simp only [EV,zF,reduceIte]) ?_)
  (((repeat refine Ws ?_);refine W_skip ?_); simp only [thenQ.eq_1, thenQ.eq_2, blockQ.eq_1, blockQ.eq_2, reduceIte, reduceCtorEq, Nat.reduceEqDiff])
  ((repeat refine Ws ?_);refine W_block ?_)
  ((repeat refine Ws ?_);refine W_regionE T_ok ?_; intro Kn hKn)
  ((simp (maxSteps := 1000000) only [VL,VM,↓VG,reduceIte,reduceCtorEq,zA,zB,zC,zD,zE,zF,zG,zH,zI,zJ, hlt, hc]); rw [hKn]; clear hKn; clear Kn; simp only [thenQ.eq_1, thenQ.eq_2, blockQ.eq_1, blockQ.eq_2, reduceIte, reduceCtorEq, Nat.reduceEqDiff])
  rw [st_put1 (by omega), hset]
  ((repeat refine Ws ?_);refine W_regionE T_ok ?_; intro Kn hKn)
  ((simp (maxSteps := 1000000) only [VL,VM,↓VG,reduceIte,reduceCtorEq,zA,zB,zC,zD,zE,zF,zG,zH,zI,zJ, k1]); rw [hKn]; clear hKn; clear Kn; simp only [thenQ.eq_1, thenQ.eq_2, blockQ.eq_1, blockQ.eq_2, reduceIte, reduceCtorEq, Nat.reduceEqDiff])
  exact LoopK.mk (i + 1) (by omega) (by omega) ⟨rfl, rfl, rfl, trivial⟩ rfl
 ·have k2 : ((i : Int) < (n : Int)) = False := eq_false (by omega)
  obtain rfl : i = n := by omega
  rw [Nat.sub_self, List.replicate_zero, List.append_nil]
  ((simp (maxSteps := 1000000) only [VL,VM,↓VG,reduceIte,reduceCtorEq,zA,zB,zC,zD,zE,zF,zG,zH,zI,zJ, k2]); rw [hKn]; clear hKn; clear Kn; simp only [thenQ.eq_1, thenQ.eq_2, blockQ.eq_1, blockQ.eq_2, reduceIte, reduceCtorEq, Nat.reduceEqDiff])
  ((repeat refine Ws ?_);refine Wf (by first|rfl|simp only [EV,zF,reduceIte]) ?_)
  (((repeat refine Ws ?_);refine W_exit ?_); simp only [thenQ.eq_1, thenQ.eq_2, blockQ.eq_1, blockQ.eq_2, reduceIte, reduceCtorEq, Nat.reduceEqDiff])
  (repeat refine Ws ?_)
  refine W_frzT (t := 4) (id := M.H.length + 1) (n := i) (k := 2) (xs := (List.replicate i (⟨-1, 0⟩ : St)).map stP) (by rw [flat_sts, hget]; rfl) rfl (fun x hx => by obtain ⟨z, _, rfl⟩ := List.mem_map.1 hx; rfl) (by simp) ?_
  simp only [hset, List.set_cons_succ, List.set_cons_zero]
  (repeat refine Ws ?_)
  refine W_drawE T_ok [] (by kernel_rfl) (by kernel_rfl) ?_
  intro Kn hKn
  generalize hi : mkPlan _ = infs
  cbv at hi
  subst hi
  simp (maxSteps := 1000000) only [VL,VM,↓VG,reduceIte,reduceCtorEq,zA,zB,zC,zD,zE,zF,zG,zH,zI,zJ, q3, q4]
  apply call_d (f := 80) (fn := Try.f80) (by kernel_rfl) (by rfl)
  ·refine VC_frzA (us := [yardV y, stsV (List.replicate i (⟨-1, 0⟩ : St))]) (vs := []) (k := 1) (xs := (List.replicate y.ramps.length (0 : Int)).map intP) ?_ ?_ ?_ (serve_v hy i _ _ _ hsv hun)
   ·rw [flat_ints, hget]
    simp
   ·intro x hx
    obtain ⟨z, _, rfl⟩ := List.mem_map.1 hx; rfl
   ·simp
  have hfin : servR y i (List.replicate i ⟨-1, 0⟩) (List.replicate y.ramps.length 0) = servedR y := by rw [servedR, hn]
  rw [hfin]
  ((simp (maxSteps := 1000000) only [VL,VM,↓VG,reduceIte,reduceCtorEq,zA,zB,zC,zD,zE,zF,zG,zH,zI,zJ]); rw [hKn]; clear hKn; clear Kn; simp only [thenQ.eq_1, thenQ.eq_2, blockQ.eq_1, blockQ.eq_2, reduceIte, reduceCtorEq, Nat.reduceEqDiff])
  (repeat refine Ws ?_)
  refine W_ret ?_
  try simp only [thenQ, blockQ]
  refine own_ret2 rfl ?_ ?_ (by rfl) (by rfl)
  simp only [get_cons, frz, vtup, Nat.reduceEqDiff, if_true, if_false, reduceIte]
  rfl
theorem own_ret3 {T : Tab} {f : Nat} {fn : Func} {M : Mem} {L : List VObj} {e : Env} {t t' t'' : Nat} {X Y Z : VV} (h1 : fn.results.toList = [.tmp t, .tmp t', .tmp t'']) (hr : frz M.H.length (M.H ++ L) (get e t) = X) (hr' : frz M.H.length (M.H ++ L) (get e t') = Y) (hr'' : frz M.H.length (M.H ++ L) (get e t'') = Z) (h2 : refs X = []) (h2' : refs Y = []) (h2'' : refs Z = []) : ownQ T f fn M (fun r M' => M' = M ∧ r = .tup [X, Y, Z]) .ret e ⟨M.H ++ L, M.lg⟩ [] :=
 own_ret (vs := [get e t, get e t', get e t'']) (by rw [h1]; rfl) (by simp only [vtup, frz, frzL, hr, hr', hr'']) (by simp [refs, refsL, h2, h2', h2'']) ⟨rfl, rfl⟩
def serveV (y : Ya) : VV := .tup [stsV (serveT y).1, vi (serveT y).2.1, vi (serveT y).2.2]
end Go.Proofs.Ythcicaelnchfdaa.Vm

/- Choices of carts, on values. (Vm) -/
namespace Go.Proofs.Ythcicaelnchfdaa.Vm
open Go Go.Proofs
theorem nil_rowP {w : World} {I : Nat → Nat → Prop} {v : Value} (h : RepP w I v (.sl 1 [[.sl 0 []]])) : RepP w I v (.sl 1 [[.sl 1 []]]) := by
 cases h with
 | sl A' c _ b off _ g q1 q2 q3 q4 q5 q6 q7 =>
  have key : ∀ (i : Nat) (x : List PV) (j : Nat) (u : PV), ([[PV.sl 1 []]] : List (List PV))[i]? = some x → x[j]? = some u → i = 0 ∧ j = 0 ∧ u = .sl 1 [] := fun i x j u hx hu => by
   rcases i with _ | i
   ·simp only [List.getElem?_cons_zero, Option.some.injEq] at hx
    subst hx
    rcases j with _ | j
    ·simp only [List.getElem?_cons_zero, Option.some.injEq] at hu
     exact ⟨rfl, rfl, hu.symm⟩
    ·simp at hu
   ·simp at hx
  refine .sl A' c 1 b off [[.sl 1 []]] g q1 q2 (fun x hx => by simp at hx; subst hx; rfl) (fun _ => q4 (by simp)) (fun i x j u hx hu => ?_) (fun i x j u hx hu => ?_) (fun i x j u hx hu => ?_)
  ·obtain ⟨rfl, rfl, rfl⟩ := key i x j u hx hu
   exact q5 0 _ 0 _ rfl rfl
  ·obtain ⟨rfl, rfl, rfl⟩ := key i x j u hx hu
   exact q6 0 _ 0 _ rfl rfl
  ·obtain ⟨rfl, rfl, rfl⟩ := key i x j u hx hu
   have hv := q7 0 _ 0 _ rfl rfl
   generalize g 0 0 = gv at hv ⊢
   cases hv with
   | sl B c2 _ b2 off2 _ g2 r1 r2 r3 r4 r5 r6 r7 => exact .sl B c2 1 b2 off2 [] g2 r1 r2 (fun x hx => by cases hx) r4 (fun i x j u hx => by simp at hx) (fun i x j u hx => by simp at hx) (fun i x j u hx => by simp at hx)
theorem nil_row {w : World} {K : Nat → Option Nat} {H : List VObj} {v : Value} (h : RepV w K H v (.sf 1 [[.sl 0 []]])) : RepV w K H v (tabV [[]]) := by
 generalize hx : ([[PV.sl 0 []]] : List (List PV)) = xs at h
 cases h with
 | sf A _ _ hp =>
  subst hx
  exact .p _ _ (nil_rowP hp)
theorem own_retC {f : Nat} {fn : Func} {M : Mem} {L : List VObj} {Y : List (Nat × Nat)} {e : Env} {ex : Exit} {a t : Nat} {X Z : VV} (hex : ex = .normal ∨ ex = .ret) (hY : ∀ x ∈ Y, M.H.length ≤ x.1) (h1 : fn.results.toList = [.cell a t]) (hr : vload T t (get e a) ⟨M.H ++ L, M.lg ++ Y⟩ = some Z) (hZ : frz M.H.length (M.H ++ L) Z = X) (h2 : refs X = []) : ownQ T f fn M (fun r M' => M' = M ∧ r = X) ex e ⟨M.H ++ L, M.lg ++ Y⟩ [] :=
 ⟨hex, rfl, ⟨Y, rfl, hY⟩, M.H, L, rfl, rfl, [Z], by rw [h1]; simp [vresL, hr], X, hZ, by simp [h2], rfl, rfl⟩
theorem only_v {y : Ya} (l : List Int) (M : Mem) (hl : l.length ≤ 1000000) (hm : ∀ x ∈ l, 0 ≤ x ∧ x < y.carts.length) : VC Try.prog 31 [yardV y, intsV l] M (fun r M' => M' = M ∧ r = yardV (onlyY y l)) := by
 refine VC_own' T_ok (f := 31) (fn := Try.f31) (by kernel_rfl) rfl Try.ntmps31 (by rfl) (by rfl) ?_
 ((repeat refine Ws ?_);refine W_regionE T_ok ?_; intro Kn hKn)
 ((simp (maxSteps := 1000000) only [VL,VM,↓VG,reduceIte,reduceCtorEq,zA,zB,zC,zD,zE,zF,zG,zH,zI,zJ]); rw [hKn]; clear hKn; clear Kn; simp only [thenQ.eq_1, thenQ.eq_2, blockQ.eq_1, blockQ.eq_2, reduceIte, reduceCtorEq, Nat.reduceEqDiff])
 ((repeat refine Ws ?_);refine W_regionE T_ok ?_; intro Kn hKn)
 ((simp (maxSteps := 1000000) only [VL,VM,↓VG,reduceIte,reduceCtorEq,zA,zB,zC,zD,zE,zF,zG,zH,zI,zJ]); rw [hKn]; clear hKn; clear Kn; simp only [thenQ.eq_1, thenQ.eq_2, blockQ.eq_1, blockQ.eq_2, reduceIte, reduceCtorEq, Nat.reduceEqDiff])
 ((repeat refine Ws ?_);refine W_regionE T_ok ?_; intro Kn hKn)
 ((simp (maxSteps := 1000000) only [VL,VM,↓VG,reduceIte,reduceCtorEq,zA,zB,zC,zD,zE,zF,zG,zH,zI,zJ]); rw [hKn]; clear hKn; clear Kn; simp only [thenQ.eq_1, thenQ.eq_2, blockQ.eq_1, blockQ.eq_2, reduceIte, reduceCtorEq, Nat.reduceEqDiff])
 (repeat refine Ws ?_)
 refine W_ghost (id := M.H.length + 2) (off := 1) (k := 6) (k0 := 0) (by rw [hget]; rfl) rfl ?_
 simp only [hset, List.set_cons_succ, List.set_cons_zero, List.append_assoc, List.cons_append, List.nil_append, List.length_append, List.length_cons, List.length_nil, Nat.zero_add, Nat.add_assoc, Nat.reduceAdd]
 ((repeat refine Ws ?_);refine W_regionE T_ok ?_; intro Kn hKn)
 ((simp (maxSteps := 1000000) only [VL,VM,↓VG,reduceIte,reduceCtorEq,zA,zB,zC,zD,zE,zF,zG,zH,zI,zJ]); rw [hKn]; clear hKn; clear Kn; simp only [thenQ.eq_1, thenQ.eq_2, blockQ.eq_1, blockQ.eq_2, reduceIte, reduceCtorEq, Nat.reduceEqDiff])
 ((repeat refine Ws ?_);refine W_block ?_; (repeat refine Ws ?_)); refine W_loopS (fun i : Nat => [(1, intsV l), (2, .ptr M.H.length 0), (4, .ptr (M.H.length + 1) 0), (5, .ptr (M.H.length + 2) 0), (6, vi i)]) (fun i => ⟨M.H ++ [.obj (yardC y), .obj [.sf 0 [], .sf 0 [], vi 0], .obj [rasV y.ramps, .so (M.H.length + 3) 6 (((l.take i).map fun k => ctAt y k.toNat).map ctP), vi y.sweep], .clm i 6], M.lg ++ [(M.H.length + 2, M.H.length + 3)]⟩) (fun i => l.length - i) (fun i => i ≤ l.length) 0 (Nat.zero_le _) ⟨rfl, rfl, rfl, rfl, rfl, trivial⟩ rfl ?_
 intro i hi
 have k1 : -9223372036854775808 ≤ (i : Int) + 1 ∧ (i : Int) + 1 < 9223372036854775808 := by omega
 ((repeat refine Ws ?_);refine W_regionE T_ok ?_; intro Kn hKn)
 rcases Nat.lt_or_ge i l.length with hlt | hge
 ·have k2 : ((i : Int) < (l.length : Int)) = True := eq_true (by omega)
  have hx := tkAt_get hlt
  have hx' := map_at (f := intP) hx
  obtain ⟨b0, b1⟩ := hm _ (tkAt_mem hlt)
  have hy' := map_at (f := ctP) (ctAt_get (y := y) (i := (tkAt l i).toNat) (by omega))
  have q0 : ((l.take i).map fun k => ctAt y k.toNat).length = i := by simp; omega
  have q1 : ((i + 1) * 64 ≤ 140737488355328) = True := eq_true (by omega)
  have key : (l.take (i + 1)).map (fun k => ctAt y k.toNat) = (l.take i).map (fun k => ctAt y k.toNat) ++ [ctAt y (tkAt l i).toNat] := by
   rw [List.take_add_one, hx]; simp
  generalize (l.take i).map (fun k => ctAt y k.toNat) = c at q0 key ⊢
  ((simp (maxSteps := 1000000) only [VL,VM,↓VG,reduceIte,reduceCtorEq,zA,zB,zC,zD,zE,zF,zG,zH,zI,zJ, k2]); rw [hKn]; clear hKn; clear Kn; simp only [thenQ.eq_1, thenQ.eq_2, blockQ.eq_1, blockQ.eq_2, reduceIte, reduceCtorEq, Nat.reduceEqDiff])
  ((repeat refine Ws ?_);refine Wt (by first|rfl|simp only [EV,zF,reduceIte]) ?_)
  (((repeat refine Ws ?_);refine W_skip ?_); simp only [thenQ.eq_1, thenQ.eq_2, blockQ.eq_1, blockQ.eq_2, reduceIte, reduceCtorEq, Nat.reduceEqDiff])
  ((repeat refine Ws ?_);refine W_block ?_)
  (repeat refine Ws ?_)
  refine W_drawE T_ok [] (by kernel_rfl) (by kernel_rfl) ?_
  intro Kn hKn
  generalize hi : mkPlan _ = infs
  cbv at hi
  subst hi
  ((simp (maxSteps := 1000000) only [VL,VM,↓VG,reduceIte,reduceCtorEq,zA,zB,zC,zD,zE,zF,zG,zH,zI,zJ, hx', b0, hy', q0, q1]); rw [hKn]; clear hKn; clear Kn; simp only [thenQ.eq_1, thenQ.eq_2, blockQ.eq_1, blockQ.eq_2, reduceIte, reduceCtorEq, Nat.reduceEqDiff])
  ((repeat refine Ws ?_);refine W_regionE T_ok ?_; intro Kn hKn)
  ((simp (maxSteps := 1000000) only [VL,VM,↓VG,reduceIte,reduceCtorEq,zA,zB,zC,zD,zE,zF,zG,zH,zI,zJ, k1]); rw [hKn]; clear hKn; clear Kn; simp only [thenQ.eq_1, thenQ.eq_2, blockQ.eq_1, blockQ.eq_2, reduceIte, reduceCtorEq, Nat.reduceEqDiff])
  refine LoopK.mk (i + 1) (by omega) (by omega) ⟨rfl, rfl, rfl, rfl, rfl, trivial⟩ ?_
  rw [key]
  simp [addLg, refs]
 ·have k2 : ((i : Int) < (l.length : Int)) = False := eq_false (by omega)
  obtain rfl : i = l.length := by omega
  rw [List.take_length]
  ((simp (maxSteps := 1000000) only [VL,VM,↓VG,reduceIte,reduceCtorEq,zA,zB,zC,zD,zE,zF,zG,zH,zI,zJ, k2]); rw [hKn]; clear hKn; clear Kn; simp only [thenQ.eq_1, thenQ.eq_2, blockQ.eq_1, blockQ.eq_2, reduceIte, reduceCtorEq, Nat.reduceEqDiff])
  ((repeat refine Ws ?_);refine Wf (by first|rfl|simp only [EV,zF,reduceIte]) ?_)
  (((repeat refine Ws ?_);refine W_exit ?_); simp only [thenQ.eq_1, thenQ.eq_2, blockQ.eq_1, blockQ.eq_2, reduceIte, reduceCtorEq, Nat.reduceEqDiff])
  ((repeat refine Ws ?_);refine W_regionE T_ok ?_; intro Kn hKn)
  ((simp (maxSteps := 1000000) only [VL,VM,↓VG,reduceIte,reduceCtorEq,zA,zB,zC,zD,zE,zF,zG,zH,zI,zJ]); rw [hKn]; clear hKn; clear Kn; simp only [thenQ.eq_1, thenQ.eq_2, blockQ.eq_1, blockQ.eq_2, reduceIte, reduceCtorEq, Nat.reduceEqDiff])
  (repeat refine Ws ?_)
  refine W_ret ?_
  try simp only [thenQ, blockQ]
  refine own_retC (Z := yardV (onlyY y l)) (.inr rfl) (by simp) rfl ?_ rfl rfl
  simp only [onlyY, yardV, yardC, ctsV, List.map_map]
  simp [vload, t_yard, get_cons, strip1]
  rfl
theorem W_know1 {P : Program} {cx : Cx} {e : Env} {M : Mem} {D : List Nat} {Q : PQ} {c : Code} {t : Nat} (ht : get e t = .sf 1 [[.sl 0 []]]) (h : WCode P cx c ((t, tabV [[]]) :: e) M D Q) : WCode P cx c e M D Q := W_know ht (fun r hr => by simp [refs] at hr) (fun _ _ _ => nil_row) h
theorem choices_v : ∀ (m n f : Nat) (M : Mem), n ≤ 7 → m ≤ 7 → f ≤ n → VC Try.prog 30 [vi f, vi n, vi m] M (fun r M' => M' = M ∧ r = tabV (choices n m f)) := by
 intro m
 induction m with
 | zero =>
  intro n f M h1 h2 h3
  refine VC_own' T_ok (f := 30) (fn := Try.f30) (by kernel_rfl) rfl Try.ntmps30 (by rfl) (by rfl) ?_
  ((repeat refine Ws ?_);refine W_regionE T_ok ?_; intro Kn hKn)
  ((simp (maxSteps := 1000000) only [VL,VM,↓VG,reduceIte,reduceCtorEq,zA,zB,zC,zD,zE,zF,zG,zH,zI,zJ]); rw [hKn]; clear hKn; clear Kn; simp only [thenQ.eq_1, thenQ.eq_2, blockQ.eq_1, blockQ.eq_2, reduceIte, reduceCtorEq, Nat.reduceEqDiff])
  ((repeat refine Ws ?_);refine W_regionE T_ok ?_; intro Kn hKn)
  ((simp (maxSteps := 1000000) only [VL,VM,↓VG,reduceIte,reduceCtorEq,zA,zB,zC,zD,zE,zF,zG,zH,zI,zJ, Int.natCast_zero, show ((0 : Nat) : Int) = 0 from rfl]); rw [hKn]; clear hKn; clear Kn; simp only [thenQ.eq_1, thenQ.eq_2, blockQ.eq_1, blockQ.eq_2, reduceIte, reduceCtorEq, Nat.reduceEqDiff])
  ((repeat refine Ws ?_);refine Wt (by first|rfl|simp only [EV,zF,reduceIte]) ?_)
  ((repeat refine Ws ?_);refine W_regionE T_ok ?_; intro Kn hKn)
  ((simp (maxSteps := 1000000) only [VL,VM,↓VG,reduceIte,reduceCtorEq,zA,zB,zC,zD,zE,zF,zG,zH,zI,zJ]); rw [hKn]; clear hKn; clear Kn; simp only [thenQ.eq_1, thenQ.eq_2, blockQ.eq_1, blockQ.eq_2, reduceIte, reduceCtorEq, Nat.reduceEqDiff])
  (repeat refine Ws ?_)
  refine W_know1 (t := 6) rfl ?_
  (repeat refine Ws ?_)
  refine W_ret ?_
  try simp only [thenQ, blockQ]
  refine own_ret10 rfl ?_ (by rfl)
  rfl
 | succ m ih =>
  intro n f M h1 h2 h3
  have hz : (((m + 1 : Nat) : Int) = 0) = False := eq_false (by omega)
  have hm1 : ((m + 1 : Nat) : Int) - 1 = (m : Int) := by omega
  have bm : -9223372036854775808 ≤ (m : Int) ∧ (m : Int) < 9223372036854775808 := by omega
  refine VC_own' T_ok (f := 30) (fn := Try.f30) (by kernel_rfl) rfl Try.ntmps30 (by rfl) (by rfl) ?_
  ((repeat refine Ws ?_);refine W_regionE T_ok ?_; intro Kn hKn)
  ((simp (maxSteps := 1000000) only [VL,VM,↓VG,reduceIte,reduceCtorEq,zA,zB,zC,zD,zE,zF,zG,zH,zI,zJ]); rw [hKn]; clear hKn; clear Kn; simp only [thenQ.eq_1, thenQ.eq_2, blockQ.eq_1, blockQ.eq_2, reduceIte, reduceCtorEq, Nat.reduceEqDiff])
  ((repeat refine Ws ?_);refine W_regionE T_ok ?_; intro Kn hKn)
  ((simp (maxSteps := 1000000) only [VL,VM,↓VG,reduceIte,reduceCtorEq,zA,zB,zC,zD,zE,zF,zG,zH,zI,zJ, hz]); rw [hKn]; clear hKn; clear Kn; simp only [thenQ.eq_1, thenQ.eq_2, blockQ.eq_1, blockQ.eq_2, reduceIte, reduceCtorEq, Nat.reduceEqDiff])
  ((repeat refine Ws ?_);refine Wf (by first|rfl|simp only [EV,zF,reduceIte]) ?_)
  (((repeat refine Ws ?_);refine W_skip ?_); simp only [thenQ.eq_1, thenQ.eq_2, blockQ.eq_1, blockQ.eq_2, reduceIte, reduceCtorEq, Nat.reduceEqDiff])
  ((repeat refine Ws ?_);refine W_regionE T_ok ?_; intro Kn hKn)
  ((simp (maxSteps := 1000000) only [VL,VM,↓VG,reduceIte,reduceCtorEq,zA,zB,zC,zD,zE,zF,zG,zH,zI,zJ]); rw [hKn]; clear hKn; clear Kn; simp only [thenQ.eq_1, thenQ.eq_2, blockQ.eq_1, blockQ.eq_2, reduceIte, reduceCtorEq, Nat.reduceEqDiff])
  (repeat refine Ws ?_)
  refine W_tok (t := 7) (k := 1) rfl ?_
  ((repeat refine Ws ?_);refine W_regionE T_ok ?_; intro Kn hKn)
  ((simp (maxSteps := 1000000) only [VL,VM,↓VG,reduceIte,reduceCtorEq,zA,zB,zC,zD,zE,zF,zG,zH,zI,zJ]); rw [hKn]; clear hKn; clear Kn; simp only [thenQ.eq_1, thenQ.eq_2, blockQ.eq_1, blockQ.eq_2, reduceIte, reduceCtorEq, Nat.reduceEqDiff])
  ((repeat refine Ws ?_);refine W_block ?_; (repeat refine Ws ?_)); refine W_loopS (fun s : Nat × List VObj => [(1, vi n), (2, vi ((m + 1 : Nat) : Int)), (7, .so M.H.length 1 ((chTo n m f s.1).map rowP)), (8, vi s.1)]) (fun s => ⟨M.H ++ .clm (chTo n m f s.1).length 1 :: s.2, M.lg⟩) (fun s => n - s.1) (fun s => f ≤ s.1 ∧ s.1 ≤ n) (f, []) ⟨Nat.le_refl _, h3⟩ ⟨rfl, rfl, by simp [chTo, get_cons], rfl, trivial⟩ (by simp [chTo]) ?_
  rintro ⟨i, L⟩ ⟨hfi, hin⟩
  simp only at hfi hin
  have k1 : -9223372036854775808 ≤ (i : Int) + 1 ∧ (i : Int) + 1 < 9223372036854775808 := by omega
  ((repeat refine Ws ?_);refine W_regionE T_ok ?_; intro Kn hKn)
  rcases Nat.lt_or_ge i n with hlt | hge
  ·have k2 : ((i : Int) < (n : Int)) = True := eq_true (by omega)
   obtain ⟨rest, hrest⟩ := chTo_pre (n := n) (m := m) (f := f) (i := i + 1) (by omega) (by omega)
   have hlen := choices_len (n := n) (m := m + 1) (f := f) h1 h2 h3
   rw [hrest, List.length_append, chTo_succ hfi, List.length_append, List.length_map] at hlen
   ((simp (maxSteps := 1000000) only [VL,VM,↓VG,reduceIte,reduceCtorEq,zA,zB,zC,zD,zE,zF,zG,zH,zI,zJ, k2]); rw [hKn]; clear hKn; clear Kn; simp only [thenQ.eq_1, thenQ.eq_2, blockQ.eq_1, blockQ.eq_2, reduceIte, reduceCtorEq, Nat.reduceEqDiff])
   ((repeat refine Ws ?_);refine Wt (by first|rfl|simp only [EV,zF,reduceIte]) ?_)
   (((repeat refine Ws ?_);refine W_skip ?_); simp only [thenQ.eq_1, thenQ.eq_2, blockQ.eq_1, blockQ.eq_2, reduceIte, reduceCtorEq, Nat.reduceEqDiff])
   ((repeat refine Ws ?_);refine W_block ?_)
   ((repeat refine Ws ?_);refine W_regionE T_ok ?_; intro Kn hKn)
   simp (maxSteps := 1000000) only [VL,VM,↓VG,reduceIte,reduceCtorEq,zA,zB,zC,zD,zE,zF,zG,zH,zI,zJ, k1, hm1, bm]
   apply call_eq (f := 30) (fn := Try.f30) (by kernel_rfl) (by rfl)
   ·exact ih n (i + 1) _ h1 (by omega) (by omega)
   ((simp (maxSteps := 1000000) only [VL,VM,↓VG,reduceIte,reduceCtorEq,zA,zB,zC,zD,zE,zF,zG,zH,zI,zJ]); rw [hKn]; clear hKn; clear Kn; simp only [thenQ.eq_1, thenQ.eq_2, blockQ.eq_1, blockQ.eq_2, reduceIte, reduceCtorEq, Nat.reduceEqDiff])
   ((repeat refine Ws ?_);refine W_regionE T_ok ?_; intro Kn hKn)
   ((simp (maxSteps := 1000000) only [VL,VM,↓VG,reduceIte,reduceCtorEq,zA,zB,zC,zD,zE,zF,zG,zH,zI,zJ]); rw [hKn]; clear hKn; clear Kn; simp only [thenQ.eq_1, thenQ.eq_2, blockQ.eq_1, blockQ.eq_2, reduceIte, reduceCtorEq, Nat.reduceEqDiff])
   generalize hC : choices n m (i + 1) = C at hlen
   have hCm : ∀ row ∈ C, row.length ≤ 7 := by
    rw [← hC]
    intro row h
    have := (choices_mem.1 h).1
    omega
   generalize hB : chTo n m f i = B at hlen
   ((repeat refine Ws ?_);refine W_block ?_; (repeat refine Ws ?_)); refine W_loopS (fun s : Nat × List VObj => [(1, vi n), (2, vi ((m + 1 : Nat) : Int)), (7, .so M.H.length 1 ((B ++ (C.take s.1).map fun l => (i : Int) :: l).map rowP)), (8, vi i), (9, tabV C), (10, vi s.1)]) (fun s => ⟨M.H ++ .clm (B.length + s.1) 1 :: s.2, M.lg⟩) (fun s => C.length - s.1) (fun s => s.1 ≤ C.length) (0, L) (Nat.zero_le _) ⟨rfl, rfl, by simp [get_cons], rfl, rfl, rfl, trivial⟩ (by simp) ?_
   rintro ⟨k, L2⟩ hk
   simp only at hk
   have j1 : -9223372036854775808 ≤ (k : Int) + 1 ∧ (k : Int) + 1 < 9223372036854775808 := by omega
   ((repeat refine Ws ?_);refine W_regionE T_ok ?_; intro Kn hKn)
   rcases Nat.lt_or_ge k C.length with hlt2 | hge2
   ·have j2 : ((k : Int) < (C.length : Int)) = True := eq_true (by omega)
    have hr : C[k]? = some C[k] := List.getElem?_eq_getElem hlt2
    have hr' := map_at (f := rowP) hr
    have q0 : (B ++ (C.take k).map fun l => (i : Int) :: l).length = B.length + k := by simp; omega
    have q1 : ((B.length + (k + 1)) * 24 ≤ 140737488355328) = True := eq_true (by omega)
    have hcl : (C[k]).length ≤ 7 := hCm _ (List.getElem_mem hlt2)
    have key : B ++ ((C.take (k + 1)).map fun l => (i : Int) :: l) = (B ++ (C.take k).map fun l => (i : Int) :: l) ++ [(i : Int) :: C[k]] := by
     rw [List.take_add_one, hr, List.map_append, ← List.append_assoc]; rfl
    generalize C[k] = row at hr hr' key hcl
    generalize (B ++ (C.take k).map fun l => (i : Int) :: l) = A at q0 key ⊢
    ((simp (maxSteps := 1000000) only [VL,VM,↓VG,reduceIte,reduceCtorEq,zA,zB,zC,zD,zE,zF,zG,zH,zI,zJ, j2]); rw [hKn]; clear hKn; clear Kn; simp only [thenQ.eq_1, thenQ.eq_2, blockQ.eq_1, blockQ.eq_2, reduceIte, reduceCtorEq, Nat.reduceEqDiff])
    ((repeat refine Ws ?_);refine Wt (by first|rfl|simp only [EV,zF,reduceIte]) ?_)
    (((repeat refine Ws ?_);refine W_skip ?_); simp only [thenQ.eq_1, thenQ.eq_2, blockQ.eq_1, blockQ.eq_2, reduceIte, reduceCtorEq, Nat.reduceEqDiff])
    ((repeat refine Ws ?_);refine W_block ?_)
    ((repeat refine Ws ?_);refine W_regionE T_ok ?_; intro Kn hKn)
    cases row with
    | nil =>
     simp only [rowP, List.map_nil] at hr'
     ((simp (maxSteps := 1000000) only [VL,VM,↓VG,reduceIte,reduceCtorEq,zA,zB,zC,zD,zE,zF,zG,zH,zI,zJ, hr', q0, q1]); rw [hKn]; clear hKn; clear Kn; simp only [thenQ.eq_1, thenQ.eq_2, blockQ.eq_1, blockQ.eq_2, reduceIte, reduceCtorEq, Nat.reduceEqDiff])
     ((repeat refine Ws ?_);refine W_regionE T_ok ?_; intro Kn hKn)
     ((simp (maxSteps := 1000000) only [VL,VM,↓VG,reduceIte,reduceCtorEq,zA,zB,zC,zD,zE,zF,zG,zH,zI,zJ, j1]); rw [hKn]; clear hKn; clear Kn; simp only [thenQ.eq_1, thenQ.eq_2, blockQ.eq_1, blockQ.eq_2, reduceIte, reduceCtorEq, Nat.reduceEqDiff])
     refine LoopK.mk (k + 1, L2) (by simp; omega) (by simp; omega) ⟨rfl, rfl, ?_, rfl, rfl, rfl, trivial⟩ ?_
     ·rw [key]; simp [get_cons]
     ·rfl
    | cons a row =>
     have q2 : ((1 + (row.length + 1)) * 8 ≤ 140737488355328) = True := eq_true (by simp at hcl; omega)
     simp only [rowP, List.map_cons] at hr'
     ((simp (maxSteps := 1000000) only [VL,VM,↓VG,reduceIte,reduceCtorEq,zA,zB,zC,zD,zE,zF,zG,zH,zI,zJ, hr', q0, q1, q2]); rw [hKn]; clear hKn; clear Kn; simp only [thenQ.eq_1, thenQ.eq_2, blockQ.eq_1, blockQ.eq_2, reduceIte, reduceCtorEq, Nat.reduceEqDiff])
     ((repeat refine Ws ?_);refine W_regionE T_ok ?_; intro Kn hKn)
     ((simp (maxSteps := 1000000) only [VL,VM,↓VG,reduceIte,reduceCtorEq,zA,zB,zC,zD,zE,zF,zG,zH,zI,zJ, j1]); rw [hKn]; clear hKn; clear Kn; simp only [thenQ.eq_1, thenQ.eq_2, blockQ.eq_1, blockQ.eq_2, reduceIte, reduceCtorEq, Nat.reduceEqDiff])
     refine LoopK.mk (k + 1, L2 ++ [VObj.clm (1 + (row.length + 1)) 1]) (by simp; omega) (by simp; omega) ⟨rfl, rfl, ?_, rfl, rfl, rfl, trivial⟩ ?_
     ·rw [key]; simp [get_cons]
     ·rfl
   ·have j2 : ((k : Int) < (C.length : Int)) = False := eq_false (by omega)
    obtain rfl : k = C.length := by omega
    rw [List.take_length]
    have hnext : B ++ (C.map fun l => (i : Int) :: l) = chTo n m f (i + 1) := by rw [chTo_succ hfi, hC, hB]
    have hnl : B.length + C.length = (chTo n m f (i + 1)).length := by rw [← hnext]; simp
    ((simp (maxSteps := 1000000) only [VL,VM,↓VG,reduceIte,reduceCtorEq,zA,zB,zC,zD,zE,zF,zG,zH,zI,zJ, j2]); rw [hKn]; clear hKn; clear Kn; simp only [thenQ.eq_1, thenQ.eq_2, blockQ.eq_1, blockQ.eq_2, reduceIte, reduceCtorEq, Nat.reduceEqDiff])
    ((repeat refine Ws ?_);refine Wf (by first|rfl|simp only [EV,zF,reduceIte]) ?_)
    (((repeat refine Ws ?_);refine W_exit ?_); simp only [thenQ.eq_1, thenQ.eq_2, blockQ.eq_1, blockQ.eq_2, reduceIte, reduceCtorEq, Nat.reduceEqDiff])
    ((repeat refine Ws ?_);refine W_regionE T_ok ?_; intro Kn hKn)
    ((simp (maxSteps := 1000000) only [VL,VM,↓VG,reduceIte,reduceCtorEq,zA,zB,zC,zD,zE,zF,zG,zH,zI,zJ, k1]); rw [hKn]; clear hKn; clear Kn; simp only [thenQ.eq_1, thenQ.eq_2, blockQ.eq_1, blockQ.eq_2, reduceIte, reduceCtorEq, Nat.reduceEqDiff])
    rw [hnext, hnl]
    exact LoopK.mk (i + 1, _) (by simp; omega) (by simp; omega) ⟨rfl, rfl, rfl, rfl, trivial⟩ rfl
  ·have k2 : ((i : Int) < (n : Int)) = False := eq_false (by omega)
   obtain rfl : i = n := by omega
   rw [chTo_all]
   ((simp (maxSteps := 1000000) only [VL,VM,↓VG,reduceIte,reduceCtorEq,zA,zB,zC,zD,zE,zF,zG,zH,zI,zJ, k2]); rw [hKn]; clear hKn; clear Kn; simp only [thenQ.eq_1, thenQ.eq_2, blockQ.eq_1, blockQ.eq_2, reduceIte, reduceCtorEq, Nat.reduceEqDiff])
   ((repeat refine Ws ?_);refine Wf (by first|rfl|simp only [EV,zF,reduceIte]) ?_)
   (((repeat refine Ws ?_);refine W_exit ?_); simp only [thenQ.eq_1, thenQ.eq_2, blockQ.eq_1, blockQ.eq_2, reduceIte, reduceCtorEq, Nat.reduceEqDiff])
   ((repeat refine Ws ?_);refine W_regionE T_ok ?_; intro Kn hKn)
   ((simp (maxSteps := 1000000) only [VL,VM,↓VG,reduceIte,reduceCtorEq,zA,zB,zC,zD,zE,zF,zG,zH,zI,zJ]); rw [hKn]; clear hKn; clear Kn; simp only [thenQ.eq_1, thenQ.eq_2, blockQ.eq_1, blockQ.eq_2, reduceIte, reduceCtorEq, Nat.reduceEqDiff])
   (repeat refine Ws ?_)
   refine W_ret ?_
   try simp only [thenQ, blockQ]
   refine own_ret1 rfl ?_ (by rfl)
   simp only [get_cons, frz, vtup, Nat.reduceEqDiff, if_true, if_false, reduceIte]
end Go.Proofs.Ythcicaelnchfdaa.Vm

/- The reference's Stuck and Most, on values. (Vm) -/
namespace Go.Proofs.Ythcicaelnchfdaa.Vm
open Go Go.Proofs
set_option maxHeartbeats 1000000 in
theorem rstuck_v (y : Ya) (M : Mem) (hnr : y.ramps.length ≤ 1000000) (hmm : y.carts.length ≤ 1000000) (hl : ∀ c ∈ y.carts, c.ramps.length ≤ 1000000) : VC Try.prog 26 [yardV y] M (fun r M' => M' = M ∧ r = .tup [intsV (stuckT y).1, vi (stuckT y).2]) := by
 refine VC_own' T_ok (f := 26) (fn := Try.f26) (by kernel_rfl) rfl Try.ntmps26 (by rfl) (by rfl) ?_
 ((repeat refine Ws ?_);refine W_regionE T_ok ?_; intro Kn hKn)
 ((simp (maxSteps := 1000000) only [VL,VM,↓VG,reduceIte,reduceCtorEq,zA,zB,zC,zD,zE,zF,zG,zH,zI,zJ]); rw [hKn]; clear hKn; clear Kn; simp only [thenQ.eq_1, thenQ.eq_2, blockQ.eq_1, blockQ.eq_2, reduceIte, reduceCtorEq, Nat.reduceEqDiff])
 ((repeat refine Ws ?_);refine W_regionE T_ok ?_; intro Kn hKn)
 simp (maxSteps := 1000000) only [VL,VM,↓VG,reduceIte,reduceCtorEq,zA,zB,zC,zD,zE,zF,zG,zH,zI,zJ]
 apply call_eq (f := 15) (fn := Try.f15) (by kernel_rfl) (by rfl)
 ·exact rcheck_v y _ hnr hmm hl
 ((simp (maxSteps := 1000000) only [VL,VM,↓VG,reduceIte,reduceCtorEq,zA,zB,zC,zD,zE,zF,zG,zH,zI,zJ]); rw [hKn]; clear hKn; clear Kn; simp only [thenQ.eq_1, thenQ.eq_2, blockQ.eq_1, blockQ.eq_2, reduceIte, reduceCtorEq, Nat.reduceEqDiff])
 ((repeat refine Ws ?_);refine W_regionE T_ok ?_; intro Kn hKn)
 by_cases h1 : yErr y = 0
 ·have hy := yErr_ok.1 h1
  have hm7 := hy.m1
  obtain ⟨n, hn⟩ : ∃ n, n = y.carts.length := ⟨_, rfl⟩
  rw [← hn] at hm7
  ((simp (maxSteps := 1000000) only [VL,VM,↓VG,reduceIte,reduceCtorEq,zA,zB,zC,zD,zE,zF,zG,zH,zI,zJ, h1]); rw [hKn]; clear hKn; clear Kn; simp only [thenQ.eq_1, thenQ.eq_2, blockQ.eq_1, blockQ.eq_2, reduceIte, reduceCtorEq, Nat.reduceEqDiff])
  ((repeat refine Ws ?_);refine Wf (by first|rfl|simp only [EV,zF,reduceIte]) ?_)
  (((repeat refine Ws ?_);refine W_skip ?_); simp only [thenQ.eq_1, thenQ.eq_2, blockQ.eq_1, blockQ.eq_2, reduceIte, reduceCtorEq, Nat.reduceEqDiff])
  ((repeat refine Ws ?_);refine W_regionE T_ok ?_; intro Kn hKn)
  ((simp (maxSteps := 1000000) only [VL,VM,↓VG,reduceIte,reduceCtorEq,zA,zB,zC,zD,zE,zF,zG,zH,zI,zJ]); rw [hKn]; clear hKn; clear Kn; simp only [thenQ.eq_1, thenQ.eq_2, blockQ.eq_1, blockQ.eq_2, reduceIte, reduceCtorEq, Nat.reduceEqDiff])
  rw [← hn]
  ((repeat refine Ws ?_);refine W_regionE T_ok ?_; intro Kn hKn)
  ((simp (maxSteps := 1000000) only [VL,VM,↓VG,reduceIte,reduceCtorEq,zA,zB,zC,zD,zE,zF,zG,zH,zI,zJ]); rw [hKn]; clear hKn; clear Kn; simp only [thenQ.eq_1, thenQ.eq_2, blockQ.eq_1, blockQ.eq_2, reduceIte, reduceCtorEq, Nat.reduceEqDiff])
  ((repeat refine Ws ?_);refine W_block ?_; (repeat refine Ws ?_)); refine W_loopS (fun s : Nat × List VObj => [(1, .ptr M.H.length 0), (5, vi n), (6, vi ((s.1 : Int) + 1))]) (fun s => ⟨M.H ++ .obj (yardC y) :: s.2, M.lg⟩) (fun s => n - s.1) (fun s => s.1 ≤ n ∧ ((List.range' 1 s.1).flatMap fun m => choices n m 0).find? (fun l => !canB y l) = none) (0, []) ⟨Nat.zero_le _, by simp⟩ ⟨rfl, rfl, by simp [get_cons], trivial⟩ rfl ?_
  rintro ⟨j, L⟩ ⟨hj, hpre⟩
  simp only at hj hpre
  ((repeat refine Ws ?_);refine W_regionE T_ok ?_; intro Kn hKn)
  rcases Nat.lt_or_ge j n with hlt | hge
  ·have k2 : ((j : Int) + 1 ≤ (n : Int)) = True := eq_true (by omega)
   obtain ⟨mm, hmm2⟩ : ∃ mm, mm = (j + 1) := ⟨_, rfl⟩
   have hmi : (j : Int) + 1 = (mm : Int) := by omega
   have hsplit : ∃ R, stuckL y = ((List.range' 1 j).flatMap fun m => choices n m 0) ++ (choices n (j + 1) 0 ++ R) := by
    unfold stuckL
    rw [← hn]
    have e : List.range' 1 n = List.range' 1 j ++ List.range' (1 + j) (n - j) := by
     rw [List.range'_append_1]; congr 1; omega
    rw [e, List.flatMap_append, show n - j = (n - j - 1) + 1 by omega, List.range'_succ, List.flatMap_cons, show 1 + j = j + 1 by omega]
    exact ⟨_, rfl⟩
   rw [← hmm2] at hsplit
   ((simp (maxSteps := 1000000) only [VL,VM,↓VG,reduceIte,reduceCtorEq,zA,zB,zC,zD,zE,zF,zG,zH,zI,zJ, k2]); rw [hKn]; clear hKn; clear Kn; simp only [thenQ.eq_1, thenQ.eq_2, blockQ.eq_1, blockQ.eq_2, reduceIte, reduceCtorEq, Nat.reduceEqDiff])
   ((repeat refine Ws ?_);refine Wt (by first|rfl|simp only [EV,zF,reduceIte]) ?_)
   (((repeat refine Ws ?_);refine W_skip ?_); simp only [thenQ.eq_1, thenQ.eq_2, blockQ.eq_1, blockQ.eq_2, reduceIte, reduceCtorEq, Nat.reduceEqDiff])
   ((repeat refine Ws ?_);refine W_block ?_)
   ((repeat refine Ws ?_);refine W_regionE T_ok ?_; intro Kn hKn)
   simp (maxSteps := 1000000) only [VL,VM,↓VG,reduceIte,reduceCtorEq,zA,zB,zC,zD,zE,zF,zG,zH,zI,zJ, hmi]
   apply call_eq (f := 30) (fn := Try.f30) (by kernel_rfl) (by rfl)
   ·exact choices_v mm n 0 _ (by omega) (by omega) (by omega)
   ((simp (maxSteps := 1000000) only [VL,VM,↓VG,reduceIte,reduceCtorEq,zA,zB,zC,zD,zE,zF,zG,zH,zI,zJ]); rw [hKn]; clear hKn; clear Kn; simp only [thenQ.eq_1, thenQ.eq_2, blockQ.eq_1, blockQ.eq_2, reduceIte, reduceCtorEq, Nat.reduceEqDiff])
   generalize hC : choices n mm 0 = C at hsplit
   have hCm : ∀ l ∈ C, l.length ≤ 7 ∧ ∀ x ∈ l, 0 ≤ x ∧ x < y.carts.length := by
    rw [← hC, ← hn]
    intro l h
    obtain ⟨a, _, c⟩ := choices_mem.1 h
    exact ⟨by omega, fun x hx => by have := c x hx; omega⟩
   have hCl : C.length ≤ 128 := by rw [← hC]; exact choices_len (by omega) (by omega) (by omega)
   ((repeat refine Ws ?_);refine W_regionE T_ok ?_; intro Kn hKn)
   ((simp (maxSteps := 1000000) only [VL,VM,↓VG,reduceIte,reduceCtorEq,zA,zB,zC,zD,zE,zF,zG,zH,zI,zJ]); rw [hKn]; clear hKn; clear Kn; simp only [thenQ.eq_1, thenQ.eq_2, blockQ.eq_1, blockQ.eq_2, reduceIte, reduceCtorEq, Nat.reduceEqDiff])
   ((repeat refine Ws ?_);refine W_block ?_; (repeat refine Ws ?_)); refine W_loopS (fun s : Nat × List VObj => [(1, .ptr M.H.length 0), (5, vi n), (6, vi mm), (7, tabV C), (8, vi s.1)]) (fun s => ⟨M.H ++ .obj (yardC y) :: s.2, M.lg⟩) (fun s => C.length - s.1) (fun s => s.1 ≤ C.length ∧ (C.take s.1).find? (fun l => !canB y l) = none) (0, L) ⟨Nat.zero_le _, by simp⟩ ⟨rfl, rfl, rfl, rfl, rfl, trivial⟩ rfl ?_
   rintro ⟨k, L2⟩ ⟨hk, hno⟩
   simp only at hk hno
   have j1 : -9223372036854775808 ≤ (k : Int) + 1 ∧ (k : Int) + 1 < 9223372036854775808 := by omega
   ((repeat refine Ws ?_);refine W_regionE T_ok ?_; intro Kn hKn)
   rcases Nat.lt_or_ge k C.length with hlt2 | hge2
   ·have j2 : ((k : Int) < (C.length : Int)) = True := eq_true (by omega)
    have hr : C[k]? = some C[k] := List.getElem?_eq_getElem hlt2
    have hr' := map_at (f := rowP) hr
    obtain ⟨hcl, hcx⟩ := hCm _ (List.getElem_mem hlt2)
    have htk : C.take (k + 1) = C.take k ++ [C[k]] := by rw [List.take_add_one, hr]; rfl
    have hCs : ∃ R, C = C.take k ++ C[k] :: R := ⟨C.drop (k + 1), by rw [← drop_at hlt2, List.take_append_drop]⟩
    generalize C[k] = l at hr hr' hcl hcx htk hCs
    have hyo := onlyY_ok hy hcl hcx
    have hcan : canB y l = (servedR (onlyY y l)).isSome := rfl
    ((simp (maxSteps := 1000000) only [VL,VM,↓VG,reduceIte,reduceCtorEq,zA,zB,zC,zD,zE,zF,zG,zH,zI,zJ, j2]); rw [hKn]; clear hKn; clear Kn; simp only [thenQ.eq_1, thenQ.eq_2, blockQ.eq_1, blockQ.eq_2, reduceIte, reduceCtorEq, Nat.reduceEqDiff])
    ((repeat refine Ws ?_);refine Wt (by first|rfl|simp only [EV,zF,reduceIte]) ?_)
    (((repeat refine Ws ?_);refine W_skip ?_); simp only [thenQ.eq_1, thenQ.eq_2, blockQ.eq_1, blockQ.eq_2, reduceIte, reduceCtorEq, Nat.reduceEqDiff])
    ((repeat refine Ws ?_);refine W_block ?_)
    (repeat refine Ws ?_)
    refine W_drawE T_ok [] (by kernel_rfl) (by kernel_rfl) ?_
    intro Kn hKn
    generalize hi : mkPlan _ = infs
    cbv at hi
    subst hi
    simp (maxSteps := 1000000) only [VL,VM,↓VG,reduceIte,reduceCtorEq,zA,zB,zC,zD,zE,zF,zG,zH,zI,zJ, hr']
    apply call_d (f := 31) (fn := Try.f31) (by kernel_rfl) (by rfl)
    ·exact only_v (y := y) l _ (by omega) hcx
    simp (maxSteps := 1000000) only [VL,VM,↓VG,reduceIte,reduceCtorEq,zA,zB,zC,zD,zE,zF,zG,zH,zI,zJ]
    apply call_d (f := 42) (fn := Try.f42) (by kernel_rfl) (by rfl)
    ·exact served_v hyo _
    ((simp (maxSteps := 1000000) only [VL,VM,↓VG,reduceIte,reduceCtorEq,zA,zB,zC,zD,zE,zF,zG,zH,zI,zJ]); rw [hKn]; clear hKn; clear Kn; simp only [thenQ.eq_1, thenQ.eq_2, blockQ.eq_1, blockQ.eq_2, reduceIte, reduceCtorEq, Nat.reduceEqDiff])
    rw [← hcan]
    ((repeat refine Ws ?_);refine W_regionE T_ok ?_; intro Kn hKn)
    cases hcb : canB y l
    ·have hfind : (stuckL y).find? (fun l => !canB y l) = some l := by
      obtain ⟨R, hR⟩ := hsplit
      obtain ⟨R2, hR2⟩ := hCs
      rw [hR, List.find?_append, hpre, hR2]
      simp [hno, hcb]
     ((simp (maxSteps := 1000000) only [VL,VM,↓VG,reduceIte,reduceCtorEq,zA,zB,zC,zD,zE,zF,zG,zH,zI,zJ]); rw [hKn]; clear hKn; clear Kn; simp only [thenQ.eq_1, thenQ.eq_2, blockQ.eq_1, blockQ.eq_2, reduceIte, reduceCtorEq, Nat.reduceEqDiff])
     ((repeat refine Ws ?_);refine Wt (by first|rfl|simp only [EV,zF,reduceIte]) ?_)
     ((repeat refine Ws ?_);refine W_regionE T_ok ?_; intro Kn hKn)
     ((simp (maxSteps := 1000000) only [VL,VM,↓VG,reduceIte,reduceCtorEq,zA,zB,zC,zD,zE,zF,zG,zH,zI,zJ, hr']); rw [hKn]; clear hKn; clear Kn; simp only [thenQ.eq_1, thenQ.eq_2, blockQ.eq_1, blockQ.eq_2, reduceIte, reduceCtorEq, Nat.reduceEqDiff])
     rw [show stuckT y = (l, 0) by rw [stuckT, if_pos h1, hfind]]
     (repeat refine Ws ?_)
     refine W_ret ?_
     try simp only [thenQ, blockQ]
     refine own_ret2 rfl ?_ ?_ (by rfl) (by rfl)
     ·rfl
     ·rfl
    ·((simp (maxSteps := 1000000) only [VL,VM,↓VG,reduceIte,reduceCtorEq,zA,zB,zC,zD,zE,zF,zG,zH,zI,zJ]); rw [hKn]; clear hKn; clear Kn; simp only [thenQ.eq_1, thenQ.eq_2, blockQ.eq_1, blockQ.eq_2, reduceIte, reduceCtorEq, Nat.reduceEqDiff])
     ((repeat refine Ws ?_);refine Wf (by first|rfl|simp only [EV,zF,reduceIte]) ?_)
     (((repeat refine Ws ?_);refine W_skip ?_); simp only [thenQ.eq_1, thenQ.eq_2, blockQ.eq_1, blockQ.eq_2, reduceIte, reduceCtorEq, Nat.reduceEqDiff])
     ((repeat refine Ws ?_);refine W_regionE T_ok ?_; intro Kn hKn)
     ((simp (maxSteps := 1000000) only [VL,VM,↓VG,reduceIte,reduceCtorEq,zA,zB,zC,zD,zE,zF,zG,zH,zI,zJ, j1]); rw [hKn]; clear hKn; clear Kn; simp only [thenQ.eq_1, thenQ.eq_2, blockQ.eq_1, blockQ.eq_2, reduceIte, reduceCtorEq, Nat.reduceEqDiff])
     exact LoopK.mk (k + 1, _) (by simp; omega) ⟨by simp; omega, by rw [htk, List.find?_append, hno]; simp [hcb]⟩ ⟨rfl, rfl, rfl, rfl, rfl, trivial⟩ rfl
   ·have j2 : ((k : Int) < (C.length : Int)) = False := eq_false (by omega)
    obtain rfl : k = C.length := by omega
    rw [List.take_length] at hno
    have k1 : -9223372036854775808 ≤ (mm : Int) + 1 ∧ (mm : Int) + 1 < 9223372036854775808 := by omega
    have hnx : (((List.range' 1 (j + 1)).flatMap fun m => choices n m 0).find? (fun l => !canB y l)) = none := by
     rw [List.range'_1_concat, List.flatMap_append, List.find?_append, hpre]
     simp only [List.flatMap_cons, List.flatMap_nil, List.append_nil, show 1 + j = j + 1 by omega, ← hmm2, hC]
     simpa using hno
    ((simp (maxSteps := 1000000) only [VL,VM,↓VG,reduceIte,reduceCtorEq,zA,zB,zC,zD,zE,zF,zG,zH,zI,zJ, j2]); rw [hKn]; clear hKn; clear Kn; simp only [thenQ.eq_1, thenQ.eq_2, blockQ.eq_1, blockQ.eq_2, reduceIte, reduceCtorEq, Nat.reduceEqDiff])
    ((repeat refine Ws ?_);refine Wf (by first|rfl|simp only [EV,zF,reduceIte]) ?_)
    (((repeat refine Ws ?_);refine W_exit ?_); simp only [thenQ.eq_1, thenQ.eq_2, blockQ.eq_1, blockQ.eq_2, reduceIte, reduceCtorEq, Nat.reduceEqDiff])
    ((repeat refine Ws ?_);refine W_regionE T_ok ?_; intro Kn hKn)
    ((simp (maxSteps := 1000000) only [VL,VM,↓VG,reduceIte,reduceCtorEq,zA,zB,zC,zD,zE,zF,zG,zH,zI,zJ, k1]); rw [hKn]; clear hKn; clear Kn; simp only [thenQ.eq_1, thenQ.eq_2, blockQ.eq_1, blockQ.eq_2, reduceIte, reduceCtorEq, Nat.reduceEqDiff])
    refine LoopK.mk (j + 1, _) (by simp; omega) ⟨by simp; omega, hnx⟩ ⟨rfl, rfl, ?_, trivial⟩ rfl
    simp only [get_cons, reduceIte]
    congr 2
    omega
  ·have k2 : ((j : Int) + 1 ≤ (n : Int)) = False := eq_false (by omega)
   obtain rfl : j = n := by omega
   have hall : (stuckL y).find? (fun l => !canB y l) = none := by
    rw [stuckL, ← hn]; exact hpre
   ((simp (maxSteps := 1000000) only [VL,VM,↓VG,reduceIte,reduceCtorEq,zA,zB,zC,zD,zE,zF,zG,zH,zI,zJ, k2]); rw [hKn]; clear hKn; clear Kn; simp only [thenQ.eq_1, thenQ.eq_2, blockQ.eq_1, blockQ.eq_2, reduceIte, reduceCtorEq, Nat.reduceEqDiff])
   ((repeat refine Ws ?_);refine Wf (by first|rfl|simp only [EV,zF,reduceIte]) ?_)
   (((repeat refine Ws ?_);refine W_exit ?_); simp only [thenQ.eq_1, thenQ.eq_2, blockQ.eq_1, blockQ.eq_2, reduceIte, reduceCtorEq, Nat.reduceEqDiff])
   ((repeat refine Ws ?_);refine W_regionE T_ok ?_; intro Kn hKn)
   ((simp (maxSteps := 1000000) only [VL,VM,↓VG,reduceIte,reduceCtorEq,zA,zB,zC,zD,zE,zF,zG,zH,zI,zJ]); rw [hKn]; clear hKn; clear Kn; simp only [thenQ.eq_1, thenQ.eq_2, blockQ.eq_1, blockQ.eq_2, reduceIte, reduceCtorEq, Nat.reduceEqDiff])
   (repeat refine Ws ?_)
   refine W_nil (t := 2) (k := 1) rfl ?_
   rw [show stuckT y = ([], 3) by rw [stuckT, if_pos h1, hall]]
   (repeat refine Ws ?_)
   refine W_ret ?_
   try simp only [thenQ, blockQ]
   refine own_ret2 rfl ?_ ?_ (by rfl) (by rfl)
   ·rfl
   ·rfl
 ·skip
  ((simp (maxSteps := 1000000) only [VL,VM,↓VG,reduceIte,reduceCtorEq,zA,zB,zC,zD,zE,zF,zG,zH,zI,zJ, h1]); rw [hKn]; clear hKn; clear Kn; simp only [thenQ.eq_1, thenQ.eq_2, blockQ.eq_1, blockQ.eq_2, reduceIte, reduceCtorEq, Nat.reduceEqDiff])
  ((repeat refine Ws ?_);refine Wt (by first|rfl|simp only [EV,zF,reduceIte]) ?_)
  ((repeat refine Ws ?_);refine W_regionE T_ok ?_; intro Kn hKn)
  ((simp (maxSteps := 1000000) only [VL,VM,↓VG,reduceIte,reduceCtorEq,zA,zB,zC,zD,zE,zF,zG,zH,zI,zJ]); rw [hKn]; clear hKn; clear Kn; simp only [thenQ.eq_1, thenQ.eq_2, blockQ.eq_1, blockQ.eq_2, reduceIte, reduceCtorEq, Nat.reduceEqDiff])
  (repeat refine Ws ?_)
  refine W_nil (t := 2) (k := 1) rfl ?_
  rw [show stuckT y = ([], yErr y) by rw [stuckT, if_neg h1]]
  (repeat refine Ws ?_)
  refine W_ret ?_
  try simp only [thenQ, blockQ]
  refine own_ret2 rfl ?_ ?_ (by rfl) (by rfl)
  ·rfl
  ·rfl
set_option maxHeartbeats 1000000 in
theorem rmost_v (y : Ya) (M : Mem) (hnr : y.ramps.length ≤ 1000000) (hmm : y.carts.length ≤ 1000000) (hl : ∀ c ∈ y.carts, c.ramps.length ≤ 1000000) : VC Try.prog 28 [yardV y] M (fun r M' => M' = M ∧ r = .tup [intsV (mostT y).1, vi (mostT y).2]) := by
 refine VC_own' T_ok (f := 28) (fn := Try.f28) (by kernel_rfl) rfl Try.ntmps28 (by rfl) (by rfl) ?_
 ((repeat refine Ws ?_);refine W_regionE T_ok ?_; intro Kn hKn)
 ((simp (maxSteps := 1000000) only [VL,VM,↓VG,reduceIte,reduceCtorEq,zA,zB,zC,zD,zE,zF,zG,zH,zI,zJ]); rw [hKn]; clear hKn; clear Kn; simp only [thenQ.eq_1, thenQ.eq_2, blockQ.eq_1, blockQ.eq_2, reduceIte, reduceCtorEq, Nat.reduceEqDiff])
 ((repeat refine Ws ?_);refine W_regionE T_ok ?_; intro Kn hKn)
 simp (maxSteps := 1000000) only [VL,VM,↓VG,reduceIte,reduceCtorEq,zA,zB,zC,zD,zE,zF,zG,zH,zI,zJ]
 apply call_eq (f := 15) (fn := Try.f15) (by kernel_rfl) (by rfl)
 ·exact rcheck_v y _ hnr hmm hl
 ((simp (maxSteps := 1000000) only [VL,VM,↓VG,reduceIte,reduceCtorEq,zA,zB,zC,zD,zE,zF,zG,zH,zI,zJ]); rw [hKn]; clear hKn; clear Kn; simp only [thenQ.eq_1, thenQ.eq_2, blockQ.eq_1, blockQ.eq_2, reduceIte, reduceCtorEq, Nat.reduceEqDiff])
 ((repeat refine Ws ?_);refine W_regionE T_ok ?_; intro Kn hKn)
 by_cases h1 : yErr y = 0
 ·have hy := yErr_ok.1 h1
  have hm7 := hy.m1
  obtain ⟨n, hn⟩ : ∃ n, n = y.carts.length := ⟨_, rfl⟩
  rw [← hn] at hm7
  ((simp (maxSteps := 1000000) only [VL,VM,↓VG,reduceIte,reduceCtorEq,zA,zB,zC,zD,zE,zF,zG,zH,zI,zJ, h1]); rw [hKn]; clear hKn; clear Kn; simp only [thenQ.eq_1, thenQ.eq_2, blockQ.eq_1, blockQ.eq_2, reduceIte, reduceCtorEq, Nat.reduceEqDiff])
  ((repeat refine Ws ?_);refine Wf (by first|rfl|simp only [EV,zF,reduceIte]) ?_)
  (((repeat refine Ws ?_);refine W_skip ?_); simp only [thenQ.eq_1, thenQ.eq_2, blockQ.eq_1, blockQ.eq_2, reduceIte, reduceCtorEq, Nat.reduceEqDiff])
  ((repeat refine Ws ?_);refine W_regionE T_ok ?_; intro Kn hKn)
  ((simp (maxSteps := 1000000) only [VL,VM,↓VG,reduceIte,reduceCtorEq,zA,zB,zC,zD,zE,zF,zG,zH,zI,zJ]); rw [hKn]; clear hKn; clear Kn; simp only [thenQ.eq_1, thenQ.eq_2, blockQ.eq_1, blockQ.eq_2, reduceIte, reduceCtorEq, Nat.reduceEqDiff])
  rw [← hn]
  ((repeat refine Ws ?_);refine W_regionE T_ok ?_; intro Kn hKn)
  ((simp (maxSteps := 1000000) only [VL,VM,↓VG,reduceIte,reduceCtorEq,zA,zB,zC,zD,zE,zF,zG,zH,zI,zJ]); rw [hKn]; clear hKn; clear Kn; simp only [thenQ.eq_1, thenQ.eq_2, blockQ.eq_1, blockQ.eq_2, reduceIte, reduceCtorEq, Nat.reduceEqDiff])
  ((repeat refine Ws ?_);refine W_block ?_; (repeat refine Ws ?_)); refine W_loopS (fun s : Nat × List VObj => [(1, .ptr M.H.length 0), (5, vi n), (6, vi ((n : Int) - (s.1 : Int)))]) (fun s => ⟨M.H ++ .obj (yardC y) :: s.2, M.lg⟩) (fun s => n - s.1) (fun s => s.1 ≤ n ∧ ((List.range s.1).flatMap fun j => choices n (n - j) 0).find? (canB y) = none) (0, []) ⟨Nat.zero_le _, by simp⟩ ⟨rfl, rfl, by simp [get_cons], trivial⟩ rfl ?_
  rintro ⟨j, L⟩ ⟨hj, hpre⟩
  simp only at hj hpre
  ((repeat refine Ws ?_);refine W_regionE T_ok ?_; intro Kn hKn)
  rcases Nat.lt_or_ge j n with hlt | hge
  ·have k2 : (0 < (n : Int) - (j : Int)) = True := eq_true (by omega)
   obtain ⟨mm, hmm2⟩ : ∃ mm, mm = (n - j) := ⟨_, rfl⟩
   have hmi : (n : Int) - (j : Int) = (mm : Int) := by omega
   have hsplit : ∃ R, mostL y = ((List.range j).flatMap fun j => choices n (n - j) 0) ++ (choices n (n - j) 0 ++ R) := by
    unfold mostL
    rw [← hn]
    have e : List.range n = List.range j ++ List.range' j (n - j) := by
     rw [List.range_eq_range', List.range_eq_range']
     have := List.range'_append_1 (s := 0) (m := j) (n := n - j)
     rw [Nat.zero_add] at this
     rw [this]; congr 1; omega
    rw [e, List.flatMap_append, show n - j = (n - j - 1) + 1 by omega, List.range'_succ, List.flatMap_cons, show n - j - 1 + 1 = n - j by omega]
    exact ⟨_, rfl⟩
   rw [← hmm2] at hsplit
   ((simp (maxSteps := 1000000) only [VL,VM,↓VG,reduceIte,reduceCtorEq,zA,zB,zC,zD,zE,zF,zG,zH,zI,zJ, k2]); rw [hKn]; clear hKn; clear Kn; simp only [thenQ.eq_1, thenQ.eq_2, blockQ.eq_1, blockQ.eq_2, reduceIte, reduceCtorEq, Nat.reduceEqDiff])
   ((repeat refine Ws ?_);refine Wt (by first|rfl|simp only [EV,zF,reduceIte]) ?_)
   (((repeat refine Ws ?_);refine W_skip ?_); simp only [thenQ.eq_1, thenQ.eq_2, blockQ.eq_1, blockQ.eq_2, reduceIte, reduceCtorEq, Nat.reduceEqDiff])
   ((repeat refine Ws ?_);refine W_block ?_)
   ((repeat refine Ws ?_);refine W_regionE T_ok ?_; intro Kn hKn)
   simp (maxSteps := 1000000) only [VL,VM,↓VG,reduceIte,reduceCtorEq,zA,zB,zC,zD,zE,zF,zG,zH,zI,zJ, hmi]
   apply call_eq (f := 30) (fn := Try.f30) (by kernel_rfl) (by rfl)
   ·exact choices_v mm n 0 _ (by omega) (by omega) (by omega)
   ((simp (maxSteps := 1000000) only [VL,VM,↓VG,reduceIte,reduceCtorEq,zA,zB,zC,zD,zE,zF,zG,zH,zI,zJ]); rw [hKn]; clear hKn; clear Kn; simp only [thenQ.eq_1, thenQ.eq_2, blockQ.eq_1, blockQ.eq_2, reduceIte, reduceCtorEq, Nat.reduceEqDiff])
   generalize hC : choices n mm 0 = C at hsplit
   have hCm : ∀ l ∈ C, l.length ≤ 7 ∧ ∀ x ∈ l, 0 ≤ x ∧ x < y.carts.length := by
    rw [← hC, ← hn]
    intro l h
    obtain ⟨a, _, c⟩ := choices_mem.1 h
    exact ⟨by omega, fun x hx => by have := c x hx; omega⟩
   have hCl : C.length ≤ 128 := by rw [← hC]; exact choices_len (by omega) (by omega) (by omega)
   ((repeat refine Ws ?_);refine W_regionE T_ok ?_; intro Kn hKn)
   ((simp (maxSteps := 1000000) only [VL,VM,↓VG,reduceIte,reduceCtorEq,zA,zB,zC,zD,zE,zF,zG,zH,zI,zJ]); rw [hKn]; clear hKn; clear Kn; simp only [thenQ.eq_1, thenQ.eq_2, blockQ.eq_1, blockQ.eq_2, reduceIte, reduceCtorEq, Nat.reduceEqDiff])
   ((repeat refine Ws ?_);refine W_block ?_; (repeat refine Ws ?_)); refine W_loopS (fun s : Nat × List VObj => [(1, .ptr M.H.length 0), (5, vi n), (6, vi mm), (7, tabV C), (8, vi s.1)]) (fun s => ⟨M.H ++ .obj (yardC y) :: s.2, M.lg⟩) (fun s => C.length - s.1) (fun s => s.1 ≤ C.length ∧ (C.take s.1).find? (canB y) = none) (0, L) ⟨Nat.zero_le _, by simp⟩ ⟨rfl, rfl, rfl, rfl, rfl, trivial⟩ rfl ?_
   rintro ⟨k, L2⟩ ⟨hk, hno⟩
   simp only at hk hno
   have j1 : -9223372036854775808 ≤ (k : Int) + 1 ∧ (k : Int) + 1 < 9223372036854775808 := by omega
   ((repeat refine Ws ?_);refine W_regionE T_ok ?_; intro Kn hKn)
   rcases Nat.lt_or_ge k C.length with hlt2 | hge2
   ·have j2 : ((k : Int) < (C.length : Int)) = True := eq_true (by omega)
    have hr : C[k]? = some C[k] := List.getElem?_eq_getElem hlt2
    have hr' := map_at (f := rowP) hr
    obtain ⟨hcl, hcx⟩ := hCm _ (List.getElem_mem hlt2)
    have htk : C.take (k + 1) = C.take k ++ [C[k]] := by rw [List.take_add_one, hr]; rfl
    have hCs : ∃ R, C = C.take k ++ C[k] :: R := ⟨C.drop (k + 1), by rw [← drop_at hlt2, List.take_append_drop]⟩
    generalize C[k] = l at hr hr' hcl hcx htk hCs
    have hyo := onlyY_ok hy hcl hcx
    have hcan : canB y l = (servedR (onlyY y l)).isSome := rfl
    ((simp (maxSteps := 1000000) only [VL,VM,↓VG,reduceIte,reduceCtorEq,zA,zB,zC,zD,zE,zF,zG,zH,zI,zJ, j2]); rw [hKn]; clear hKn; clear Kn; simp only [thenQ.eq_1, thenQ.eq_2, blockQ.eq_1, blockQ.eq_2, reduceIte, reduceCtorEq, Nat.reduceEqDiff])
    ((repeat refine Ws ?_);refine Wt (by first|rfl|simp only [EV,zF,reduceIte]) ?_)
    (((repeat refine Ws ?_);refine W_skip ?_); simp only [thenQ.eq_1, thenQ.eq_2, blockQ.eq_1, blockQ.eq_2, reduceIte, reduceCtorEq, Nat.reduceEqDiff])
    ((repeat refine Ws ?_);refine W_block ?_)
    (repeat refine Ws ?_)
    refine W_drawE T_ok [] (by kernel_rfl) (by kernel_rfl) ?_
    intro Kn hKn
    generalize hi : mkPlan _ = infs
    cbv at hi
    subst hi
    simp (maxSteps := 1000000) only [VL,VM,↓VG,reduceIte,reduceCtorEq,zA,zB,zC,zD,zE,zF,zG,zH,zI,zJ, hr']
    apply call_d (f := 31) (fn := Try.f31) (by kernel_rfl) (by rfl)
    ·exact only_v (y := y) l _ (by omega) hcx
    simp (maxSteps := 1000000) only [VL,VM,↓VG,reduceIte,reduceCtorEq,zA,zB,zC,zD,zE,zF,zG,zH,zI,zJ]
    apply call_d (f := 42) (fn := Try.f42) (by kernel_rfl) (by rfl)
    ·exact served_v hyo _
    ((simp (maxSteps := 1000000) only [VL,VM,↓VG,reduceIte,reduceCtorEq,zA,zB,zC,zD,zE,zF,zG,zH,zI,zJ]); rw [hKn]; clear hKn; clear Kn; simp only [thenQ.eq_1, thenQ.eq_2, blockQ.eq_1, blockQ.eq_2, reduceIte, reduceCtorEq, Nat.reduceEqDiff])
    rw [← hcan]
    ((repeat refine Ws ?_);refine W_regionE T_ok ?_; intro Kn hKn)
    cases hcb : canB y l
    ·((simp (maxSteps := 1000000) only [VL,VM,↓VG,reduceIte,reduceCtorEq,zA,zB,zC,zD,zE,zF,zG,zH,zI,zJ]); rw [hKn]; clear hKn; clear Kn; simp only [thenQ.eq_1, thenQ.eq_2, blockQ.eq_1, blockQ.eq_2, reduceIte, reduceCtorEq, Nat.reduceEqDiff])
     ((repeat refine Ws ?_);refine Wf (by first|rfl|simp only [EV,zF,reduceIte]) ?_)
     (((repeat refine Ws ?_);refine W_skip ?_); simp only [thenQ.eq_1, thenQ.eq_2, blockQ.eq_1, blockQ.eq_2, reduceIte, reduceCtorEq, Nat.reduceEqDiff])
     ((repeat refine Ws ?_);refine W_regionE T_ok ?_; intro Kn hKn)
     ((simp (maxSteps := 1000000) only [VL,VM,↓VG,reduceIte,reduceCtorEq,zA,zB,zC,zD,zE,zF,zG,zH,zI,zJ, j1]); rw [hKn]; clear hKn; clear Kn; simp only [thenQ.eq_1, thenQ.eq_2, blockQ.eq_1, blockQ.eq_2, reduceIte, reduceCtorEq, Nat.reduceEqDiff])
     exact LoopK.mk (k + 1, _) (by simp; omega) ⟨by simp; omega, by rw [htk, List.find?_append, hno]; simp [hcb]⟩ ⟨rfl, rfl, rfl, rfl, rfl, trivial⟩ rfl
    ·have hfind : (mostL y).find? (canB y) = some l := by
      obtain ⟨R, hR⟩ := hsplit
      obtain ⟨R2, hR2⟩ := hCs
      rw [hR, List.find?_append, hpre, hR2]
      simp [hno, hcb]
     ((simp (maxSteps := 1000000) only [VL,VM,↓VG,reduceIte,reduceCtorEq,zA,zB,zC,zD,zE,zF,zG,zH,zI,zJ]); rw [hKn]; clear hKn; clear Kn; simp only [thenQ.eq_1, thenQ.eq_2, blockQ.eq_1, blockQ.eq_2, reduceIte, reduceCtorEq, Nat.reduceEqDiff])
     ((repeat refine Ws ?_);refine Wt (by first|rfl|simp only [EV,zF,reduceIte]) ?_)
     ((repeat refine Ws ?_);refine W_regionE T_ok ?_; intro Kn hKn)
     ((simp (maxSteps := 1000000) only [VL,VM,↓VG,reduceIte,reduceCtorEq,zA,zB,zC,zD,zE,zF,zG,zH,zI,zJ, hr']); rw [hKn]; clear hKn; clear Kn; simp only [thenQ.eq_1, thenQ.eq_2, blockQ.eq_1, blockQ.eq_2, reduceIte, reduceCtorEq, Nat.reduceEqDiff])
     rw [show mostT y = (l, 0) by rw [mostT, if_pos h1, hfind]]
     (repeat refine Ws ?_)
     refine W_ret ?_
     try simp only [thenQ, blockQ]
     refine own_ret2 rfl ?_ ?_ (by rfl) (by rfl)
     ·rfl
     ·rfl
   ·have j2 : ((k : Int) < (C.length : Int)) = False := eq_false (by omega)
    obtain rfl : k = C.length := by omega
    rw [List.take_length] at hno
    have k1 : -9223372036854775808 ≤ (mm : Int) - 1 ∧ (mm : Int) - 1 < 9223372036854775808 := by omega
    have hnx : (((List.range (j + 1)).flatMap fun j => choices n (n - j) 0).find? (canB y)) = none := by
     rw [List.range_succ, List.flatMap_append, List.find?_append, hpre]
     simp only [List.flatMap_cons, List.flatMap_nil, List.append_nil, ← hmm2, hC]
     simpa using hno
    ((simp (maxSteps := 1000000) only [VL,VM,↓VG,reduceIte,reduceCtorEq,zA,zB,zC,zD,zE,zF,zG,zH,zI,zJ, j2]); rw [hKn]; clear hKn; clear Kn; simp only [thenQ.eq_1, thenQ.eq_2, blockQ.eq_1, blockQ.eq_2, reduceIte, reduceCtorEq, Nat.reduceEqDiff])
    ((repeat refine Ws ?_);refine Wf (by first|rfl|simp only [EV,zF,reduceIte]) ?_)
    (((repeat refine Ws ?_);refine W_exit ?_); simp only [thenQ.eq_1, thenQ.eq_2, blockQ.eq_1, blockQ.eq_2, reduceIte, reduceCtorEq, Nat.reduceEqDiff])
    ((repeat refine Ws ?_);refine W_regionE T_ok ?_; intro Kn hKn)
    ((simp (maxSteps := 1000000) only [VL,VM,↓VG,reduceIte,reduceCtorEq,zA,zB,zC,zD,zE,zF,zG,zH,zI,zJ, k1]); rw [hKn]; clear hKn; clear Kn; simp only [thenQ.eq_1, thenQ.eq_2, blockQ.eq_1, blockQ.eq_2, reduceIte, reduceCtorEq, Nat.reduceEqDiff])
    refine LoopK.mk (j + 1, _) (by simp; omega) ⟨by simp; omega, hnx⟩ ⟨rfl, rfl, ?_, trivial⟩ rfl
    simp only [get_cons, reduceIte]
    exact congrArg vi (show (mm : Int) - 1 = (n : Int) - ((j + 1 : Nat) : Int) by omega)
  ·have k2 : (0 < (n : Int) - (j : Int)) = False := eq_false (by omega)
   obtain rfl : j = n := by omega
   have hall : (mostL y).find? (canB y) = none := by
    rw [mostL, ← hn]; exact hpre
   ((simp (maxSteps := 1000000) only [VL,VM,↓VG,reduceIte,reduceCtorEq,zA,zB,zC,zD,zE,zF,zG,zH,zI,zJ, k2]); rw [hKn]; clear hKn; clear Kn; simp only [thenQ.eq_1, thenQ.eq_2, blockQ.eq_1, blockQ.eq_2, reduceIte, reduceCtorEq, Nat.reduceEqDiff])
   ((repeat refine Ws ?_);refine Wf (by first|rfl|simp only [EV,zF,reduceIte]) ?_)
   (((repeat refine Ws ?_);refine W_exit ?_); simp only [thenQ.eq_1, thenQ.eq_2, blockQ.eq_1, blockQ.eq_2, reduceIte, reduceCtorEq, Nat.reduceEqDiff])
   ((repeat refine Ws ?_);refine W_regionE T_ok ?_; intro Kn hKn)
   ((simp (maxSteps := 1000000) only [VL,VM,↓VG,reduceIte,reduceCtorEq,zA,zB,zC,zD,zE,zF,zG,zH,zI,zJ]); rw [hKn]; clear hKn; clear Kn; simp only [thenQ.eq_1, thenQ.eq_2, blockQ.eq_1, blockQ.eq_2, reduceIte, reduceCtorEq, Nat.reduceEqDiff])
   (repeat refine Ws ?_)
   refine W_nil (t := 2) (k := 1) rfl ?_
   rw [show mostT y = ([], 0) by rw [mostT, if_pos h1, hall]]
   (repeat refine Ws ?_)
   refine W_ret ?_
   try simp only [thenQ, blockQ]
   refine own_ret2 rfl ?_ ?_ (by rfl) (by rfl)
   ·rfl
   ·rfl
 ·skip
  ((simp (maxSteps := 1000000) only [VL,VM,↓VG,reduceIte,reduceCtorEq,zA,zB,zC,zD,zE,zF,zG,zH,zI,zJ, h1]); rw [hKn]; clear hKn; clear Kn; simp only [thenQ.eq_1, thenQ.eq_2, blockQ.eq_1, blockQ.eq_2, reduceIte, reduceCtorEq, Nat.reduceEqDiff])
  ((repeat refine Ws ?_);refine Wt (by first|rfl|simp only [EV,zF,reduceIte]) ?_)
  ((repeat refine Ws ?_);refine W_regionE T_ok ?_; intro Kn hKn)
  ((simp (maxSteps := 1000000) only [VL,VM,↓VG,reduceIte,reduceCtorEq,zA,zB,zC,zD,zE,zF,zG,zH,zI,zJ]); rw [hKn]; clear hKn; clear Kn; simp only [thenQ.eq_1, thenQ.eq_2, blockQ.eq_1, blockQ.eq_2, reduceIte, reduceCtorEq, Nat.reduceEqDiff])
  (repeat refine Ws ?_)
  refine W_nil (t := 2) (k := 1) rfl ?_
  rw [show mostT y = ([], yErr y) by rw [mostT, if_neg h1]]
  (repeat refine Ws ?_)
  refine W_ret ?_
  try simp only [thenQ, blockQ]
  refine own_ret2 rfl ?_ ?_ (by rfl) (by rfl)
  ·rfl
  ·rfl
end Go.Proofs.Ythcicaelnchfdaa.Vm
