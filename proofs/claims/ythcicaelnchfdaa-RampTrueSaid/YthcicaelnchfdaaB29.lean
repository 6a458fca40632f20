/- A part of the proofs about the chapter of the ramps; it states no condition of its own. -/
import Derived.Test.YthcicaelnchfdaaB18
import Derived.Test.YthcicaelnchfdaaB27
import Derived.Test.YthcicaelnchfdaaB28
set_option linter.unusedVariables false
set_option linter.unusedSimpArgs false
open Int renaming reduceLE → zA, reduceLT → zB, reduceToNat → zC, reduceNeg → zD
open Nat renaming reduceLT → zE, reduceEqDiff → zF, reduceAdd → zG, reduceSub → zH, reduceMul → zI, reduceLeDiff → zJ
/- The program's stuck and most, on values. (Vm) -/
namespace Go.Proofs.Ythcicaelnchfdaa.Vm
open Go Go.Proofs
theorem call_q {f : Nat} {fn : Func} {args : List VV} {M : Mem} {Q' Q : VV → Mem → Prop} (hf : T.fn f = some fn) (hk : T.keeps f = false) (h : VC Try.prog f (args.map strip1) M Q') (hq : ∀ r M', Q' r M' → Q r M') : VCall Try.prog (.fn (.func f) [] []) args M Q :=
 (fn_call hf hk h).mono hq
theorem own_ret2q {f : Nat} {fn : Func} {M : Mem} {L : List VObj} {e : Env} {t t' : Nat} {X Y : VV} {Q : VV → Mem → Prop} (h1 : fn.results.toList = [.tmp t, .tmp t']) (hr : frz M.H.length (M.H ++ L) (get e t) = X) (hr' : frz M.H.length (M.H ++ L) (get e t') = Y) (h2 : refs X = []) (h2' : refs Y = []) (hq : Q (.tup [X, Y]) M) : ownQ T f fn M Q .ret e ⟨M.H ++ L, M.lg⟩ [] :=
 own_ret (vs := [get e t, get e t']) (by rw [h1]; rfl) (by simp only [vtup, frz, frzL, hr, hr']) (by simp [refs, refsL, h2, h2']) hq
theorem firstF_lt (cf : Nat → Nat → Int) {l : List Nat} (h : ∀ x ∈ l, x < 128) : firstF cf l < 128 := by
 cases l with
 | nil => exact Nat.zero_lt_succ _
 | cons x l' =>
  have key : ∀ (l' : List Nat) (x : Nat), l'.foldl (fun o x => if cf x o < 0 then x else o) x ∈ x :: l' := by
   intro l'
   induction l' with
   | nil => intro x; simp
   | cons z l' ih =>
    intro x
    rw [List.foldl_cons]
    split
    ·exact List.mem_cons_of_mem _ (ih z)
    ·rcases List.mem_cons.1 (ih x) with h | h
     ·rw [h]; simp
     ·simp [h]
  exact h _ (key l' x)
theorem pstuck_w (y : Ya) (M : Mem) (hnr : y.ramps.length ≤ 1000000) (hmm : y.carts.length ≤ 1000000) (hl : ∀ c ∈ y.carts, c.ramps.length ≤ 1000000) : VC Try.prog 25 [yardV y] M (fun r M' => M' = M ∧ ((yErr y ≠ 0 ∧ r = .tup [intsV [], vi (yErr y)]) ∨ (yErr y = 0 ∧ ∃ l : List Nat, l.Perm ((List.range (2 ^ y.carts.length)).filter fun s => canS y s == false) ∧ r = .tup [intsV (if 0 < l.length then bitsI (firstF cmpS l) else []), vi (if 0 < l.length then 0 else 3)]))) := by
 refine VC_own' T_ok (f := 25) (fn := Try.f25) (by kernel_rfl) rfl Try.ntmps25 (by rfl) (by rfl) ?_
 ((repeat refine Ws ?_);refine W_regionE T_ok ?_; intro Kn hKn)
 ((simp (maxSteps := 1000000) only [VL,VM,↓VG,reduceIte,reduceCtorEq,zA,zB,zC,zD,zE,zF,zG,zH,zI,zJ]); rw [hKn];clear hKn Kn;simp only [QV,reduceIte,reduceCtorEq,Nat.reduceEqDiff])
 ((repeat refine Ws ?_);refine W_regionE T_ok ?_; intro Kn hKn)
 simp (maxSteps := 1000000) only [VL,VM,↓VG,reduceIte,reduceCtorEq,zA,zB,zC,zD,zE,zF,zG,zH,zI,zJ]
 apply call_eq (f := 48) (fn := Try.f48) (by kernel_rfl) (by rfl)
 ·exact check_v y _ hnr hmm hl
 ((simp (maxSteps := 1000000) only [VL,VM,↓VG,reduceIte,reduceCtorEq,zA,zB,zC,zD,zE,zF,zG,zH,zI,zJ]); rw [hKn];clear hKn Kn;simp only [QV,reduceIte,reduceCtorEq,Nat.reduceEqDiff])
 ((repeat refine Ws ?_);refine W_regionE T_ok ?_; intro Kn hKn)
 by_cases h1 : yErr y = 0
 ·have hy := yErr_ok.1 h1
  have hm7 := hy.m1
  have h2n : 2 ^ y.carts.length ≤ 128 := Nat.pow_le_pow_right (n := 2) (by decide) hm7
  ((simp (maxSteps := 1000000) only [VL,VM,↓VG,reduceIte,reduceCtorEq,zA,zB,zC,zD,zE,zF,zG,zH,zI,zJ, h1]); rw [hKn];clear hKn Kn;simp only [QV,reduceIte,reduceCtorEq,Nat.reduceEqDiff])
  ((repeat refine Ws ?_);refine Wf (by first|rfl|simp only [EV,zF,reduceIte]) ?_)
  (((repeat refine Ws ?_);refine W_skip ?_); simp only [QV,reduceIte,reduceCtorEq,Nat.reduceEqDiff])
  ((repeat refine Ws ?_);refine W_regionE T_ok ?_; intro Kn hKn)
  ((simp (maxSteps := 1000000) only [VL,VM,↓VG,reduceIte,reduceCtorEq,zA,zB,zC,zD,zE,zF,zG,zH,zI,zJ, t_fmany, t_flist]); rw [hKn];clear hKn Kn;simp only [QV,reduceIte,reduceCtorEq,Nat.reduceEqDiff])
  ((repeat refine Ws ?_);refine W_regionE T_ok ?_; intro Kn hKn)
  simp (maxSteps := 1000000) only [VL,VM,↓VG,reduceIte,reduceCtorEq,zA,zB,zC,zD,zE,zF,zG,zH,zI,zJ]
  apply call_eq (f := 69) (fn := Try.f69) (by kernel_rfl) (by rfl)
  ·exact served_m hy _
  simp only [List.append_assoc, List.cons_append, List.nil_append]
  simp (maxSteps := 1000000) only [VL,VM,↓VG,reduceIte,reduceCtorEq,zA,zB,zC,zD,zE,zF,zG,zH,zI,zJ]
  apply call_q (f := 68) (fn := Try.f68) (by kernel_rfl) (by rfl)
  ·exact sets_v y false _ h2n _ (by simp)
  rintro r M' ⟨hM, l, hl2, rfl⟩
  have hM' : M' = ⟨M.H ++ [.obj (yardC y), .obj [.fn (.func 65) [] []], .obj [.fn (.func 66) [] []], .obj (yardC y), .dead], M.lg⟩ := by rw [hM]; simp
  clear hM
  subst hM'
  have hll : l.length ≤ 128 := by rw [hl2.length_eq]; exact Nat.le_trans (List.length_filter_le _ _) (by simpa using h2n)
  have hlm : ∀ x ∈ l, x < 128 := fun x hx => by
   have := (List.mem_filter.1 (hl2.subset hx)).1
   have := List.mem_range.1 this
   omega
  simp (maxSteps := 1000000) only [VL,VM,↓VG,reduceIte,reduceCtorEq,zA,zB,zC,zD,zE,zF,zG,zH,zI,zJ]
  apply call_q (f := 67) (fn := Try.f67) (by kernel_rfl) (by rfl)
  ·refine first_v cmpS _ l _ (by omega) (fun a b => ?_)
   by_cases hab : a ∈ l ∧ b ∈ l
   ·refine .inl ?_
    refine callf_eq (args := [su a, su b]) (caps := [.ptr (M.H.length + 1) 0, .ptr (M.H.length + 2) 0]) (f := 70) (fn := Try.f70) (by kernel_rfl) (by rfl) (stuck1_v a b _ (hlm a hab.1) (hlm b hab.2) ?_ ?_) ⟨rfl, rfl⟩ <;> simp
   ·exact .inr hab
  rintro r M' ⟨rfl, rfl⟩
  ((simp (maxSteps := 1000000) only [VL,VM,↓VG,reduceIte,reduceCtorEq,zA,zB,zC,zD,zE,zF,zG,zH,zI,zJ]); rw [hKn];clear hKn Kn;simp only [QV,reduceIte,reduceCtorEq,Nat.reduceEqDiff])
  ((repeat refine Ws ?_);refine W_regionE T_ok ?_; intro Kn hKn)
  by_cases h0 : 0 < l.length
  ·have hfm : firstF cmpS l < 128 := firstF_lt cmpS hlm
   ((simp (maxSteps := 1000000) only [VL,VM,↓VG,reduceIte,reduceCtorEq,zA,zB,zC,zD,zE,zF,zG,zH,zI,zJ, h0]); rw [hKn];clear hKn Kn;simp only [QV,reduceIte,reduceCtorEq,Nat.reduceEqDiff])
   ((repeat refine Ws ?_);refine Wf (by first|rfl|simp only [EV,zF,reduceIte]) ?_)
   (((repeat refine Ws ?_);refine W_skip ?_); simp only [QV,reduceIte,reduceCtorEq,Nat.reduceEqDiff])
   ((repeat refine Ws ?_);refine W_regionE T_ok ?_; intro Kn hKn)
   simp (maxSteps := 1000000) only [VL,VM,↓VG,reduceIte,reduceCtorEq,zA,zB,zC,zD,zE,zF,zG,zH,zI,zJ]
   apply call_eq (f := 66) (fn := Try.f66) (by kernel_rfl) (by rfl)
   ·exact list_s _ _ hfm
   ((simp (maxSteps := 1000000) only [VL,VM,↓VG,reduceIte,reduceCtorEq,zA,zB,zC,zD,zE,zF,zG,zH,zI,zJ]); rw [hKn];clear hKn Kn;simp only [QV,reduceIte,reduceCtorEq,Nat.reduceEqDiff])
   (repeat refine Ws ?_)
   refine W_ret ?_
   try simp only [thenQ, blockQ]
   refine own_ret2q rfl ?_ ?_ ?_ ?_ ⟨rfl, .inr ⟨h1, l, hl2, by rw [if_pos h0, if_pos h0]⟩⟩
   ·rfl
   ·rfl
   ·rfl
   ·rfl
  ·((simp (maxSteps := 1000000) only [VL,VM,↓VG,reduceIte,reduceCtorEq,zA,zB,zC,zD,zE,zF,zG,zH,zI,zJ, h0]); rw [hKn];clear hKn Kn;simp only [QV,reduceIte,reduceCtorEq,Nat.reduceEqDiff])
   ((repeat refine Ws ?_);refine Wt (by first|rfl|simp only [EV,zF,reduceIte]) ?_)
   ((repeat refine Ws ?_);refine W_regionE T_ok ?_; intro Kn hKn)
   ((simp (maxSteps := 1000000) only [VL,VM,↓VG,reduceIte,reduceCtorEq,zA,zB,zC,zD,zE,zF,zG,zH,zI,zJ]); rw [hKn];clear hKn Kn;simp only [QV,reduceIte,reduceCtorEq,Nat.reduceEqDiff])
   (repeat refine Ws ?_)
   refine W_nil (t := 2) (k := 1) rfl ?_
   (repeat refine Ws ?_)
   refine W_ret ?_
   try simp only [thenQ, blockQ]
   refine own_ret2q rfl ?_ ?_ ?_ ?_ ⟨rfl, .inr ⟨h1, l, hl2, by rw [if_neg h0, if_neg h0]⟩⟩
   ·rfl
   ·rfl
   ·rfl
   ·rfl
 ·((simp (maxSteps := 1000000) only [VL,VM,↓VG,reduceIte,reduceCtorEq,zA,zB,zC,zD,zE,zF,zG,zH,zI,zJ, h1]); rw [hKn];clear hKn Kn;simp only [QV,reduceIte,reduceCtorEq,Nat.reduceEqDiff])
  ((repeat refine Ws ?_);refine Wt (by first|rfl|simp only [EV,zF,reduceIte]) ?_)
  ((repeat refine Ws ?_);refine W_regionE T_ok ?_; intro Kn hKn)
  ((simp (maxSteps := 1000000) only [VL,VM,↓VG,reduceIte,reduceCtorEq,zA,zB,zC,zD,zE,zF,zG,zH,zI,zJ]); rw [hKn];clear hKn Kn;simp only [QV,reduceIte,reduceCtorEq,Nat.reduceEqDiff])
  (repeat refine Ws ?_)
  refine W_nil (t := 2) (k := 1) rfl ?_
  (repeat refine Ws ?_)
  refine W_ret ?_
  try simp only [thenQ, blockQ]
  refine own_ret2q rfl ?_ ?_ ?_ ?_ ⟨rfl, .inl ⟨h1, rfl⟩⟩
  ·rfl
  ·rfl
  ·rfl
  ·rfl
theorem pmost_w (y : Ya) (M : Mem) (hnr : y.ramps.length ≤ 1000000) (hmm : y.carts.length ≤ 1000000) (hl : ∀ c ∈ y.carts, c.ramps.length ≤ 1000000) : VC Try.prog 27 [yardV y] M (fun r M' => M' = M ∧ ((yErr y ≠ 0 ∧ r = .tup [intsV [], vi (yErr y)]) ∨ (yErr y = 0 ∧ ∃ l : List Nat, l.Perm ((List.range (2 ^ y.carts.length)).filter fun s => canS y s == true) ∧ r = .tup [intsV (bitsI (firstF cmpM l)), vi 0]))) := by
 refine VC_own' T_ok (f := 27) (fn := Try.f27) (by kernel_rfl) rfl Try.ntmps27 (by rfl) (by rfl) ?_
 ((repeat refine Ws ?_);refine W_regionE T_ok ?_; intro Kn hKn)
 ((simp (maxSteps := 1000000) only [VL,VM,↓VG,reduceIte,reduceCtorEq,zA,zB,zC,zD,zE,zF,zG,zH,zI,zJ]); rw [hKn];clear hKn Kn;simp only [QV,reduceIte,reduceCtorEq,Nat.reduceEqDiff])
 ((repeat refine Ws ?_);refine W_regionE T_ok ?_; intro Kn hKn)
 simp (maxSteps := 1000000) only [VL,VM,↓VG,reduceIte,reduceCtorEq,zA,zB,zC,zD,zE,zF,zG,zH,zI,zJ]
 apply call_eq (f := 48) (fn := Try.f48) (by kernel_rfl) (by rfl)
 ·exact check_v y _ hnr hmm hl
 ((simp (maxSteps := 1000000) only [VL,VM,↓VG,reduceIte,reduceCtorEq,zA,zB,zC,zD,zE,zF,zG,zH,zI,zJ]); rw [hKn];clear hKn Kn;simp only [QV,reduceIte,reduceCtorEq,Nat.reduceEqDiff])
 ((repeat refine Ws ?_);refine W_regionE T_ok ?_; intro Kn hKn)
 by_cases h1 : yErr y = 0
 ·have hy := yErr_ok.1 h1
  have hm7 := hy.m1
  have h2n : 2 ^ y.carts.length ≤ 128 := Nat.pow_le_pow_right (n := 2) (by decide) hm7
  ((simp (maxSteps := 1000000) only [VL,VM,↓VG,reduceIte,reduceCtorEq,zA,zB,zC,zD,zE,zF,zG,zH,zI,zJ, h1]); rw [hKn];clear hKn Kn;simp only [QV,reduceIte,reduceCtorEq,Nat.reduceEqDiff])
  ((repeat refine Ws ?_);refine Wf (by first|rfl|simp only [EV,zF,reduceIte]) ?_)
  (((repeat refine Ws ?_);refine W_skip ?_); simp only [QV,reduceIte,reduceCtorEq,Nat.reduceEqDiff])
  ((repeat refine Ws ?_);refine W_regionE T_ok ?_; intro Kn hKn)
  ((simp (maxSteps := 1000000) only [VL,VM,↓VG,reduceIte,reduceCtorEq,zA,zB,zC,zD,zE,zF,zG,zH,zI,zJ, t_fmany, t_flist]); rw [hKn];clear hKn Kn;simp only [QV,reduceIte,reduceCtorEq,Nat.reduceEqDiff])
  ((repeat refine Ws ?_);refine W_regionE T_ok ?_; intro Kn hKn)
  simp (maxSteps := 1000000) only [VL,VM,↓VG,reduceIte,reduceCtorEq,zA,zB,zC,zD,zE,zF,zG,zH,zI,zJ]
  apply call_eq (f := 69) (fn := Try.f69) (by kernel_rfl) (by rfl)
  ·exact served_m hy _
  simp only [List.append_assoc, List.cons_append, List.nil_append]
  simp (maxSteps := 1000000) only [VL,VM,↓VG,reduceIte,reduceCtorEq,zA,zB,zC,zD,zE,zF,zG,zH,zI,zJ]
  apply call_q (f := 68) (fn := Try.f68) (by kernel_rfl) (by rfl)
  ·exact sets_v y true _ h2n _ (by simp)
  rintro r M' ⟨hM, l, hl2, rfl⟩
  have hM' : M' = ⟨M.H ++ [.obj (yardC y), .obj [.fn (.func 65) [] []], .obj [.fn (.func 66) [] []], .obj (yardC y), .dead], M.lg⟩ := by rw [hM]; simp
  clear hM
  subst hM'
  have hll : l.length ≤ 128 := by rw [hl2.length_eq]; exact Nat.le_trans (List.length_filter_le _ _) (by simpa using h2n)
  have hlm : ∀ x ∈ l, x < 128 := fun x hx => by
   have := (List.mem_filter.1 (hl2.subset hx)).1
   have := List.mem_range.1 this
   omega
  simp (maxSteps := 1000000) only [VL,VM,↓VG,reduceIte,reduceCtorEq,zA,zB,zC,zD,zE,zF,zG,zH,zI,zJ]
  apply call_q (f := 67) (fn := Try.f67) (by kernel_rfl) (by rfl)
  ·refine first_v cmpM _ l _ (by omega) (fun a b => ?_)
   by_cases hab : a ∈ l ∧ b ∈ l
   ·refine .inl ?_
    refine callf_eq (args := [su a, su b]) (caps := [.ptr (M.H.length + 1) 0, .ptr (M.H.length + 2) 0]) (f := 74) (fn := Try.f74) (by kernel_rfl) (by rfl) (most1_v a b _ (hlm a hab.1) (hlm b hab.2) ?_ ?_) ⟨rfl, rfl⟩ <;> simp
   ·exact .inr hab
  rintro r M' ⟨rfl, rfl⟩
  ((simp (maxSteps := 1000000) only [VL,VM,↓VG,reduceIte,reduceCtorEq,zA,zB,zC,zD,zE,zF,zG,zH,zI,zJ]); rw [hKn];clear hKn Kn;simp only [QV,reduceIte,reduceCtorEq,Nat.reduceEqDiff])
  have hfm : firstF cmpM l < 128 := firstF_lt cmpM hlm
  ((repeat refine Ws ?_);refine W_regionE T_ok ?_; intro Kn hKn)
  simp (maxSteps := 1000000) only [VL,VM,↓VG,reduceIte,reduceCtorEq,zA,zB,zC,zD,zE,zF,zG,zH,zI,zJ]
  apply call_eq (f := 66) (fn := Try.f66) (by kernel_rfl) (by rfl)
  ·exact list_s _ _ hfm
  ((simp (maxSteps := 1000000) only [VL,VM,↓VG,reduceIte,reduceCtorEq,zA,zB,zC,zD,zE,zF,zG,zH,zI,zJ]); rw [hKn];clear hKn Kn;simp only [QV,reduceIte,reduceCtorEq,Nat.reduceEqDiff])
  (repeat refine Ws ?_)
  refine W_ret ?_
  try simp only [thenQ, blockQ]
  refine own_ret2q rfl ?_ ?_ ?_ ?_ ⟨rfl, .inr ⟨h1, l, hl2, rfl⟩⟩
  ·rfl
  ·rfl
  ·rfl
  ·rfl
 ·((simp (maxSteps := 1000000) only [VL,VM,↓VG,reduceIte,reduceCtorEq,zA,zB,zC,zD,zE,zF,zG,zH,zI,zJ, h1]); rw [hKn];clear hKn Kn;simp only [QV,reduceIte,reduceCtorEq,Nat.reduceEqDiff])
  ((repeat refine Ws ?_);refine Wt (by first|rfl|simp only [EV,zF,reduceIte]) ?_)
  ((repeat refine Ws ?_);refine W_regionE T_ok ?_; intro Kn hKn)
  ((simp (maxSteps := 1000000) only [VL,VM,↓VG,reduceIte,reduceCtorEq,zA,zB,zC,zD,zE,zF,zG,zH,zI,zJ]); rw [hKn];clear hKn Kn;simp only [QV,reduceIte,reduceCtorEq,Nat.reduceEqDiff])
  (repeat refine Ws ?_)
  refine W_nil (t := 2) (k := 1) rfl ?_
  (repeat refine Ws ?_)
  refine W_ret ?_
  try simp only [thenQ, blockQ]
  refine own_ret2q rfl ?_ ?_ ?_ ?_ ⟨rfl, .inl ⟨h1, rfl⟩⟩
  ·rfl
  ·rfl
  ·rfl
  ·rfl
end Go.Proofs.Ythcicaelnchfdaa.Vm

/- The program's stuck and most are the reference's. (Vm) -/
namespace Go.Proofs.Ythcicaelnchfdaa.Vm
open Go Go.Proofs
theorem VC_wk {f : Nat} {args : List VV} {M : Mem} {Q Q' : VV → Mem → Prop} (h : VC Try.prog f args M Q) (k : ∀ r M', Q r M' → Q' r M') : VC Try.prog f args M Q' := h.mono k
theorem pstuck_v (y : Ya) (M : Mem) (hnr : y.ramps.length ≤ 1000000) (hmm : y.carts.length ≤ 1000000) (hl : ∀ c ∈ y.carts, c.ramps.length ≤ 1000000) : VC Try.prog 25 [yardV y] M (fun r M' => M' = M ∧ r = .tup [intsV (stuckT y).1, vi (stuckT y).2]) := by
 refine VC_wk (pstuck_w y M hnr hmm hl) ?_
 rintro r M' ⟨e, h⟩
 refine ⟨e, ?_⟩
 rcases h with ⟨h1, rfl⟩ | ⟨h1, l, hp, rfl⟩
 ·rw [stuckT, if_neg h1]
 ·rw [stuck_pick h1 hp]
theorem pmost_v (y : Ya) (M : Mem) (hnr : y.ramps.length ≤ 1000000) (hmm : y.carts.length ≤ 1000000) (hl : ∀ c ∈ y.carts, c.ramps.length ≤ 1000000) : VC Try.prog 27 [yardV y] M (fun r M' => M' = M ∧ r = .tup [intsV (mostT y).1, vi (mostT y).2]) := by
 refine VC_wk (pmost_w y M hnr hmm hl) ?_
 rintro r M' ⟨e, h⟩
 refine ⟨e, ?_⟩
 rcases h with ⟨h1, rfl⟩ | ⟨h1, l, hp, rfl⟩
 ·rw [mostT, if_neg h1]
 ·rw [most_pick h1 hp]
end Go.Proofs.Ythcicaelnchfdaa.Vm
