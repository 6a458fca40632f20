/- A part of the proofs about the chapter of the ramps; it states no condition of its own. -/
import Derived.Test.YtkipednlefbfpaaDoorB15
import Derived.Test.YtkipednlefbfpaaDoorB18
import Derived.Test.YtkipednlefbfpaaDoorB20
import Derived.Test.YtkipednlefbfpaaDoorB25
import Derived.Test.YtkipednlefbfpaaDoorB27
set_option linter.unusedVariables false
set_option linter.unusedSimpArgs false
open Int renaming reduceLE → zA, reduceLT → zB, reduceToNat → zC, reduceNeg → zD
open Nat renaming reduceLT → zE, reduceEqDiff → zF, reduceAdd → zG, reduceSub → zH, reduceMul → zI, reduceLeDiff → zJ
/- The program's stuck and most, on values. (Vm) -/
namespace Go.Proofs.YtkipednlefbfpaaDoor.Vm
open Go Go.Proofs
theorem call_q {f : Nat} {fn : Func} {args : List VV} {M : Mem} {Q' Q : VV → Mem → Prop} (hf : T.fn f = some fn) (hk : T.keeps f = false) (h : VC Tryd.prog f (args.map strip1) M Q') (hq : ∀ r M', Q' r M' → Q r M') : VCall Tryd.prog (.fn (.func f) [] []) args M Q :=
 (fn_call hf hk h).mono hq
theorem own_ret2q {f : Nat} {fn : Func} {M : Mem} {L : List VObj} {e : Env} {t t' : Nat} {X Y : VV} {Q : VV → Mem → Prop} (h1 : fn.results.toList = [.tmp t, .tmp t']) (hr : frz M.H.length (M.H ++ L) (get e t) = X) (hr' : frz M.H.length (M.H ++ L) (get e t') = Y) (h2 : refs X = []) (h2' : refs Y = []) (hq : Q (.tup [X, Y]) M) : ownQ T f fn M Q .ret e ⟨M.H ++ L, M.lg⟩ [] :=
 own_ret (vs := [get e t, get e t']) (by rw [h1]; rfl) (by simp only [vtup, frz, frzL, hr, hr']) (by simp [refs, refsL, h2, h2']) hq
theorem firstF_lt (cf : Nat → Nat → Int) {l : List Nat} (h : ∀ x ∈ l, x < 128) : firstF cf l < 128 := by
 cases l with
 | nil => exact Nat.zero_lt_succ _
 | cons x l' =>
  have key : ∀ (l' : List Nat) (x : Nat), l'.foldl (fun o x => if cf x o < 0 then x else o) x ∈ x :: l' := by
   intro l'
   induction l' with
   | nil => intro x; simp
   | cons z l' ih =>
    intro x
    rw [List.foldl_cons]
    split
    ·exact List.mem_cons_of_mem _ (ih z)
    ·rcases List.mem_cons.1 (ih x) with h | h
     ·rw [h]; simp
     ·simp [h]
  exact h _ (key l' x)
theorem pstuck_w (y : Ya) (M : Mem) (hnr : y.ramps.length ≤ 1000000) (hmm : y.carts.length ≤ 1000000) (hl : ∀ c ∈ y.carts, c.ramps.length ≤ 1000000) : VC Tryd.prog 12 [yardV y] M (fun r M' => M' = M ∧ ((yErr y ≠ 0 ∧ r = .tup [intsV [], vi (yErr y)]) ∨ (yErr y = 0 ∧ ∃ l : List Nat, l.Perm ((List.range (2 ^ y.carts.length)).filter fun s => canS y s == false) ∧ r = .tup [intsV (if 0 < l.length then bitsI (firstF cmpS l) else []), vi (if 0 < l.length then 0 else 3)]))) := by
 refine VC_own' T_ok (f := 12) (fn := Tryd.f12) (by kernel_rfl) rfl Tryd.ntmps12 (by rfl) (by rfl) ?_
 ((repeat refine Ws ?_);refine W_regionE T_ok ?_; intro Kn hKn)
 ((simp (maxSteps := 1000000) only [VL,VM,↓VG,reduceIte,reduceCtorEq,zA,zB,zC,zD,zE,zF,zG,zH,zI,zJ]); rw [hKn];clear hKn Kn;simp only [QV,reduceIte,reduceCtorEq,Nat.reduceEqDiff])
 ((repeat refine Ws ?_);refine W_regionE T_ok ?_; intro Kn hKn)
 simp (maxSteps := 1000000) only [VL,VM,↓VG,reduceIte,reduceCtorEq,zA,zB,zC,zD,zE,zF,zG,zH,zI,zJ]
 apply call_eq (f := 7) (fn := Tryd.f7) (by kernel_rfl) (by rfl)
 ·exact check_v y _ hnr hmm hl
 ((simp (maxSteps := 1000000) only [VL,VM,↓VG,reduceIte,reduceCtorEq,zA,zB,zC,zD,zE,zF,zG,zH,zI,zJ]); rw [hKn];clear hKn Kn;simp only [QV,reduceIte,reduceCtorEq,Nat.reduceEqDiff])
 ((repeat refine Ws ?_);refine W_regionE T_ok ?_; intro Kn hKn)
 by_cases h1 : yErr y = 0
 ·have hy := yErr_ok.1 h1
  have hm7 := hy.m1
  have h2n : 2 ^ y.carts.length ≤ 128 := Nat.pow_le_pow_right (n := 2) (by decide) hm7
  ((simp (maxSteps := 1000000) only [VL,VM,↓VG,reduceIte,reduceCtorEq,zA,zB,zC,zD,zE,zF,zG,zH,zI,zJ, h1]); rw [hKn];clear hKn Kn;simp only [QV,reduceIte,reduceCtorEq,Nat.reduceEqDiff])
  ((repeat refine Ws ?_);refine Wf (by first|rfl|simp only [EV,zF,reduceIte]) ?_)
  (((repeat refine Ws ?_);refine W_skip ?_); simp only [QV,reduceIte,reduceCtorEq,Nat.reduceEqDiff])
  ((repeat refine Ws ?_);refine W_regionE T_ok ?_; intro Kn hKn)
  ((simp (maxSteps := 1000000) only [VL,VM,↓VG,reduceIte,reduceCtorEq,zA,zB,zC,zD,zE,zF,zG,zH,zI,zJ, t_fmany, t_flist]); rw [hKn];clear hKn Kn;simp only [QV,reduceIte,reduceCtorEq,Nat.reduceEqDiff])
  ((repeat refine Ws ?_);refine W_regionE T_ok ?_; intro Kn hKn)
  simp (maxSteps := 1000000) only [VL,VM,↓VG,reduceIte,reduceCtorEq,zA,zB,zC,zD,zE,zF,zG,zH,zI,zJ]
  apply call_eq (f := 32) (fn := Tryd.f32) (by kernel_rfl) (by rfl)
  ·exact served_m hy _
  simp only [List.append_assoc, List.cons_append, List.nil_append]
  simp (maxSteps := 1000000) only [VL,VM,↓VG,reduceIte,reduceCtorEq,zA,zB,zC,zD,zE,zF,zG,zH,zI,zJ]
  apply call_q (f := 31) (fn := Tryd.f31) (by kernel_rfl) (by rfl)
  ·exact sets_v y false _ h2n _ (by simp)
  rintro r M' ⟨hM, l, hl2, rfl⟩
  have hM' : M' = ⟨M.H ++ [.obj (yardC y), .obj [.fn (.func 28) [] []], .obj [.fn (.func 29) [] []], .obj (yardC y), .dead], M.lg⟩ := by rw [hM]; simp
  clear hM
  subst hM'
  have hll : l.length ≤ 128 := by rw [hl2.length_eq]; exact Nat.le_trans (List.length_filter_le _ _) (by simpa using h2n)
  have hlm : ∀ x ∈ l, x < 128 := fun x hx => by
   have := (List.mem_filter.1 (hl2.subset hx)).1
   have := List.mem_range.1 this
   omega
  simp (maxSteps := 1000000) only [VL,VM,↓VG,reduceIte,reduceCtorEq,zA,zB,zC,zD,zE,zF,zG,zH,zI,zJ]
  apply call_q (f := 30) (fn := Tryd.f30) (by kernel_rfl) (by rfl)
  ·refine first_v cmpS _ l _ (by omega) (fun a b => ?_)
   by_cases hab : a ∈ l ∧ b ∈ l
   ·refine .inl ?_
    refine callf_eq (args := [su a, su b]) (caps := [.ptr (M.H.length + 1) 0, .ptr (M.H.length + 2) 0]) (f := 33) (fn := Tryd.f33) (by kernel_rfl) (by rfl) (stuck1_v a b _ (hlm a hab.1) (hlm b hab.2) ?_ ?_) ⟨rfl, rfl⟩ <;> simp
   ·exact .inr hab
  rintro r M' ⟨rfl, rfl⟩
  ((simp (maxSteps := 1000000) only [VL,VM,↓VG,reduceIte,reduceCtorEq,zA,zB,zC,zD,zE,zF,zG,zH,zI,zJ]); rw [hKn];clear hKn Kn;simp only [QV,reduceIte,reduceCtorEq,Nat.reduceEqDiff])
  ((repeat refine Ws ?_);refine W_regionE T_ok ?_; intro Kn hKn)
  by_cases h0 : 0 < l.length
  ·have hfm : firstF cmpS l < 128 := firstF_lt cmpS hlm
   ((simp (maxSteps := 1000000) only [VL,VM,↓VG,reduceIte,reduceCtorEq,zA,zB,zC,zD,zE,zF,zG,zH,zI,zJ, h0]); rw [hKn];clear hKn Kn;simp only [QV,reduceIte,reduceCtorEq,Nat.reduceEqDiff])
   ((repeat refine Ws ?_);refine Wf (by first|rfl|simp only [EV,zF,reduceIte]) ?_)
   (((repeat refine Ws ?_);refine W_skip ?_); simp only [QV,reduceIte,reduceCtorEq,Nat.reduceEqDiff])
   ((repeat refine Ws ?_);refine W_regionE T_ok ?_; intro Kn hKn)
   simp (maxSteps := 1000000) only [VL,VM,↓VG,reduceIte,reduceCtorEq,zA,zB,zC,zD,zE,zF,zG,zH,zI,zJ]
   apply call_eq (f := 29) (fn := Tryd.f29) (by kernel_rfl) (by rfl)
   ·exact list_s _ _ hfm
   ((simp (maxSteps := 1000000) only [VL,VM,↓VG,reduceIte,reduceCtorEq,zA,zB,zC,zD,zE,zF,zG,zH,zI,zJ]); rw [hKn];clear hKn Kn;simp only [QV,reduceIte,reduceCtorEq,Nat.reduceEqDiff])
   (repeat refine Ws ?_)
   refine W_ret ?_
   try simp only [thenQ, blockQ]
   refine own_ret2q rfl ?_ ?_ ?_ ?_ ⟨rfl, .inr ⟨h1, l, hl2, by rw [if_pos h0, if_pos h0]⟩⟩
   ·rfl
   ·rfl
   ·rfl
   ·rfl
  ·((simp (maxSteps := 1000000) only [VL,VM,↓VG,reduceIte,reduceCtorEq,zA,zB,zC,zD,zE,zF,zG,zH,zI,zJ, h0]); rw [hKn];clear hKn Kn;simp only [QV,reduceIte,reduceCtorEq,Nat.reduceEqDiff])
   ((repeat refine Ws ?_);refine Wt (by first|rfl|simp only [EV,zF,reduceIte]) ?_)
   ((repeat refine Ws ?_);refine W_regionE T_ok ?_; intro Kn hKn)
   ((simp (maxSteps := 1000000) only [VL,VM,↓VG,reduceIte,reduceCtorEq,zA,zB,zC,zD,zE,zF,zG,zH,zI,zJ]); rw [hKn];clear hKn Kn;simp only [QV,reduceIte,reduceCtorEq,Nat.reduceEqDiff])
   (repeat refine Ws ?_)
   refine W_nil (t := 2) (k := 1) rfl ?_
   (repeat refine Ws ?_)
   refine W_ret ?_
   try simp only [thenQ, blockQ]
   refine own_ret2q rfl ?_ ?_ ?_ ?_ ⟨rfl, .inr ⟨h1, l, hl2, by rw [if_neg h0, if_neg h0]⟩⟩
   ·rfl
   ·rfl
   ·rfl
   ·rfl
 ·((simp (maxSteps := 1000000) only [VL,VM,↓VG,reduceIte,reduceCtorEq,zA,zB,zC,zD,zE,zF,zG,zH,zI,zJ, h1]); rw [hKn];clear hKn Kn;simp only [QV,reduceIte,reduceCtorEq,Nat.reduceEqDiff])
  ((repeat refine Ws ?_);refine Wt (by first|rfl|simp only [EV,zF,reduceIte]) ?_)
  ((repeat refine Ws ?_);refine W_regionE T_ok ?_; intro Kn hKn)
  ((simp (maxSteps := 1000000) only [VL,VM,↓VG,reduceIte,reduceCtorEq,zA,zB,zC,zD,zE,zF,zG,zH,zI,zJ]); rw [hKn];clear hKn Kn;simp only [QV,reduceIte,reduceCtorEq,Nat.reduceEqDiff])
  (repeat refine Ws ?_)
  refine W_nil (t := 2) (k := 1) rfl ?_
  (repeat refine Ws ?_)
  refine W_ret ?_
  try simp only [thenQ, blockQ]
  refine own_ret2q rfl ?_ ?_ ?_ ?_ ⟨rfl, .inl ⟨h1, rfl⟩⟩
  ·rfl
  ·rfl
  ·rfl
  ·rfl
theorem pmost_w (y : Ya) (M : Mem) (hnr : y.ramps.length ≤ 1000000) (hmm : y.carts.length ≤ 1000000) (hl : ∀ c ∈ y.carts, c.ramps.length ≤ 1000000) : VC Tryd.prog 17 [yardV y] M (fun r M' => M' = M ∧ ((yErr y ≠ 0 ∧ r = .tup [intsV [], vi (yErr y)]) ∨ (yErr y = 0 ∧ ∃ l : List Nat, l.Perm ((List.range (2 ^ y.carts.length)).filter fun s => canS y s == true) ∧ r = .tup [intsV (bitsI (firstF cmpM l)), vi 0]))) := by
 refine VC_own' T_ok (f := 17) (fn := Tryd.f17) (by kernel_rfl) rfl Tryd.ntmps17 (by rfl) (by rfl) ?_
 ((repeat refine Ws ?_);refine W_regionE T_ok ?_; intro Kn hKn)
 ((simp (maxSteps := 1000000) only [VL,VM,↓VG,reduceIte,reduceCtorEq,zA,zB,zC,zD,zE,zF,zG,zH,zI,zJ]); rw [hKn];clear hKn Kn;simp only [QV,reduceIte,reduceCtorEq,Nat.reduceEqDiff])
 ((repeat refine Ws ?_);refine W_regionE T_ok ?_; intro Kn hKn)
 simp (maxSteps := 1000000) only [VL,VM,↓VG,reduceIte,reduceCtorEq,zA,zB,zC,zD,zE,zF,zG,zH,zI,zJ]
 apply call_eq (f := 7) (fn := Tryd.f7) (by kernel_rfl) (by rfl)
 ·exact check_v y _ hnr hmm hl
 ((simp (maxSteps := 1000000) only [VL,VM,↓VG,reduceIte,reduceCtorEq,zA,zB,zC,zD,zE,zF,zG,zH,zI,zJ]); rw [hKn];clear hKn Kn;simp only [QV,reduceIte,reduceCtorEq,Nat.reduceEqDiff])
 ((repeat refine Ws ?_);refine W_regionE T_ok ?_; intro Kn hKn)
 by_cases h1 : yErr y = 0
 ·have hy := yErr_ok.1 h1
  have hm7 := hy.m1
  have h2n : 2 ^ y.carts.length ≤ 128 := Nat.pow_le_pow_right (n := 2) (by decide) hm7
  ((simp (maxSteps := 1000000) only [VL,VM,↓VG,reduceIte,reduceCtorEq,zA,zB,zC,zD,zE,zF,zG,zH,zI,zJ, h1]); rw [hKn];clear hKn Kn;simp only [QV,reduceIte,reduceCtorEq,Nat.reduceEqDiff])
  ((repeat refine Ws ?_);refine Wf (by first|rfl|simp only [EV,zF,reduceIte]) ?_)
  (((repeat refine Ws ?_);refine W_skip ?_); simp only [QV,reduceIte,reduceCtorEq,Nat.reduceEqDiff])
  ((repeat refine Ws ?_);refine W_regionE T_ok ?_; intro Kn hKn)
  ((simp (maxSteps := 1000000) only [VL,VM,↓VG,reduceIte,reduceCtorEq,zA,zB,zC,zD,zE,zF,zG,zH,zI,zJ, t_fmany, t_flist]); rw [hKn];clear hKn Kn;simp only [QV,reduceIte,reduceCtorEq,Nat.reduceEqDiff])
  ((repeat refine Ws ?_);refine W_regionE T_ok ?_; intro Kn hKn)
  simp (maxSteps := 1000000) only [VL,VM,↓VG,reduceIte,reduceCtorEq,zA,zB,zC,zD,zE,zF,zG,zH,zI,zJ]
  apply call_eq (f := 32) (fn := Tryd.f32) (by kernel_rfl) (by rfl)
  ·exact served_m hy _
  simp only [List.append_assoc, List.cons_append, List.nil_append]
  simp (maxSteps := 1000000) only [VL,VM,↓VG,reduceIte,reduceCtorEq,zA,zB,zC,zD,zE,zF,zG,zH,zI,zJ]
  apply call_q (f := 31) (fn := Tryd.f31) (by kernel_rfl) (by rfl)
  ·exact sets_v y true _ h2n _ (by simp)
  rintro r M' ⟨hM, l, hl2, rfl⟩
  have hM' : M' = ⟨M.H ++ [.obj (yardC y), .obj [.fn (.func 28) [] []], .obj [.fn (.func 29) [] []], .obj (yardC y), .dead], M.lg⟩ := by rw [hM]; simp
  clear hM
  subst hM'
  have hll : l.length ≤ 128 := by rw [hl2.length_eq]; exact Nat.le_trans (List.length_filter_le _ _) (by simpa using h2n)
  have hlm : ∀ x ∈ l, x < 128 := fun x hx => by
   have := (List.mem_filter.1 (hl2.subset hx)).1
   have := List.mem_range.1 this
   omega
  simp (maxSteps := 1000000) only [VL,VM,↓VG,reduceIte,reduceCtorEq,zA,zB,zC,zD,zE,zF,zG,zH,zI,zJ]
  apply call_q (f := 30) (fn := Tryd.f30) (by kernel_rfl) (by rfl)
  ·refine first_v cmpM _ l _ (by omega) (fun a b => ?_)
   by_cases hab : a ∈ l ∧ b ∈ l
   ·refine .inl ?_
    refine callf_eq (args := [su a, su b]) (caps := [.ptr (M.H.length + 1) 0, .ptr (M.H.length + 2) 0]) (f := 45) (fn := Tryd.f45) (by kernel_rfl) (by rfl) (most1_v a b _ (hlm a hab.1) (hlm b hab.2) ?_ ?_) ⟨rfl, rfl⟩ <;> simp
   ·exact .inr hab
  rintro r M' ⟨rfl, rfl⟩
  ((simp (maxSteps := 1000000) only [VL,VM,↓VG,reduceIte,reduceCtorEq,zA,zB,zC,zD,zE,zF,zG,zH,zI,zJ]); rw [hKn];clear hKn Kn;simp only [QV,reduceIte,reduceCtorEq,Nat.reduceEqDiff])
  have hfm : firstF cmpM l < 128 := firstF_lt cmpM hlm
  ((repeat refine Ws ?_);refine W_regionE T_ok ?_; intro Kn hKn)
  simp (maxSteps := 1000000) only [VL,VM,↓VG,reduceIte,reduceCtorEq,zA,zB,zC,zD,zE,zF,zG,zH,zI,zJ]
  apply call_eq (f := 29) (fn := Tryd.f29) (by kernel_rfl) (by rfl)
  ·exact list_s _ _ hfm
  ((simp (maxSteps := 1000000) only [VL,VM,↓VG,reduceIte,reduceCtorEq,zA,zB,zC,zD,zE,zF,zG,zH,zI,zJ]); rw [hKn];clear hKn Kn;simp only [QV,reduceIte,reduceCtorEq,Nat.reduceEqDiff])
  (repeat refine Ws ?_)
  refine W_ret ?_
  try simp only [thenQ, blockQ]
  refine own_ret2q rfl ?_ ?_ ?_ ?_ ⟨rfl, .inr ⟨h1, l, hl2, rfl⟩⟩
  ·rfl
  ·rfl
  ·rfl
  ·rfl
 ·((simp (maxSteps := 1000000) only [VL,VM,↓VG,reduceIte,reduceCtorEq,zA,zB,zC,zD,zE,zF,zG,zH,zI,zJ, h1]); rw [hKn];clear hKn Kn;simp only [QV,reduceIte,reduceCtorEq,Nat.reduceEqDiff])
  ((repeat refine Ws ?_);refine Wt (by first|rfl|simp only [EV,zF,reduceIte]) ?_)
  ((repeat refine Ws ?_);refine W_regionE T_ok ?_; intro Kn hKn)
  ((simp (maxSteps := 1000000) only [VL,VM,↓VG,reduceIte,reduceCtorEq,zA,zB,zC,zD,zE,zF,zG,zH,zI,zJ]); rw [hKn];clear hKn Kn;simp only [QV,reduceIte,reduceCtorEq,Nat.reduceEqDiff])
  (repeat refine Ws ?_)
  refine W_nil (t := 2) (k := 1) rfl ?_
  (repeat refine Ws ?_)
  refine W_ret ?_
  try simp only [thenQ, blockQ]
  refine own_ret2q rfl ?_ ?_ ?_ ?_ ⟨rfl, .inl ⟨h1, rfl⟩⟩
  ·rfl
  ·rfl
  ·rfl
  ·rfl
end Go.Proofs.YtkipednlefbfpaaDoor.Vm

/- What can be served: the program's sets against the reference's lists, plain. -/
namespace Go.Proofs.YtkipednlefbfpaaDoor
theorem ry0_not (y : Ya) (r : Nat) : notAt (ry0 y) r = 0 := by
 have : (List.replicate 3 ((0 : Nat), (0 : Nat))).getD r (0, 0) = (0, 0) := by
  rw [List.getD_eq_getElem?_getD, List.getElem?_replicate]
  split <;> rfl
 unfold notAt ry0
 simp only [this]
theorem ry0_mus (y : Ya) (r : Nat) : mustAt (ry0 y) r = 0 := by
 have : (List.replicate 3 ((0 : Nat), (0 : Nat))).getD r (0, 0) = (0, 0) := by
  rw [List.getD_eq_getElem?_getD, List.getElem?_replicate]
  split <;> rfl
 unfold mustAt ry0
 simp only [this]
theorem bitsL_nodup (s : Nat) : (bitsL s).Nodup := List.Nodup.sublist List.filter_sublist List.nodup_range
theorem only_at (y : Ya) (s : Nat) {i : Nat} (h : i < (bitsL s).length) : ctAt (onlyY y (bitsI s)) i = ctAt y (bitsL s)[i] := by
 simp [ctAt, onlyY, bitsI, h]
theorem only_len (y : Ya) (s : Nat) : (onlyY y (bitsI s)).carts.length = (bitsL s).length := by simp [onlyY, bitsI]
theorem bits_lt {s n : Nat} (h : s < 2 ^ n) {c : Nat} (hc : s.testBit c = true) : c < n := by
 rcases Nat.lt_or_ge c n with h2 | h2
 ·exact h2
 ·have : s.testBit c = false := Nat.testBit_lt_two_pow (Nat.lt_of_lt_of_le h (Nat.pow_le_pow_right (by decide) h2))
  rw [this] at hc; cases hc
theorem only_ok {y : Ya} (hy : YaV y) {s : Nat} (hs : s < 2 ^ y.carts.length) : YaV (onlyY y (bitsI s)) := by
 have hm := hy.m1
 have h7 : 2 ^ y.carts.length ≤ 2 ^ 7 := Nat.pow_le_pow_right (by decide) hm
 refine onlyY_ok hy (by simpa [bitsI] using bitsL_len) fun x hx => ?_
 obtain ⟨c, hc, rfl⟩ := List.mem_map.1 hx
 have := bits_lt hs ((mem_bitsL (by omega)).1 hc)
 constructor
 ·exact Int.natCast_nonneg _
 ·show ((c : Nat) : Int) < _
  omega
theorem ask_only {y : Ya} (hy : YaV y) {s : Nat} (hs : s < 2 ^ y.carts.length) {V : Int} {p : Nat → Nat × Int} (h : AsK (ry0 y) y.ramps.length s V p) : Fe (onlyY y (bitsI s)) (planOf (bitsL s).length fun i => p ((bitsL s).getD i 0)) := by
 have hm := hy.m1
 have h7 : 2 ^ y.carts.length ≤ 2 ^ 7 := Nat.pow_le_pow_right (by decide) hm
 have hl := planOf_len (bitsL s).length fun i => p ((bitsL s).getD i 0)
 have hb : ∀ i (hi : i < (bitsL s).length), s.testBit (bitsL s)[i] = true := fun i hi => (mem_bitsL (by omega)).1 (List.getElem_mem hi)
 have hg : ∀ i (hi : i < (bitsL s).length), (bitsL s).getD i 0 = (bitsL s)[i] := fun i hi => by simp [hi]
 have hmm : ∀ c, s.testBit c = true → ((p c).1 : Int) ∈ (ctAt y c).ramps ∧ (ctAt y c).grams ≤ (raAt y (p c).1).bears := fun c hc => by
  have := h.may c hc
  unfold mayB rAt at this
  simp only [Bool.and_eq_true, decide_eq_true_eq] at this
  exact this.1
 refine ⟨by rw [hl, only_len], fun i hi => ?_, fun i hi => ?_, fun i hi => ?_, fun i hi => ?_, fun i hi => ?_, fun i hi => ?_, fun i k hi hk hne he => ?_⟩
 all_goals rw [hl] at hi
 ·rw [planOf_at hi, only_at y s hi, hg i hi]; exact (hmm _ (hb i hi)).1
 ·rw [planOf_at hi, only_at y s hi, hg i hi]; exact (hmm _ (hb i hi)).2
 ·rw [planOf_at hi, only_at y s hi, hg i hi]; exact h.f1 _ (hb i hi)
 ·rw [planOf_at hi, hg i hi]; exact h.f2 _ (hb i hi)
 ·rw [planOf_at hi, only_at y s hi, hg i hi]
  have := h.f3 _ (hb i hi)
  rw [limF_eq] at this
  have e : (ry0 y).y = y := rfl
  rw [e] at this
  simp only
  omega
 ·rw [planOf_at hi, only_at y s hi, hg i hi]
  have := h.f3 _ (hb i hi)
  rw [limF_eq] at this
  unfold rAt at this
  have e : (ry0 y).y = y := rfl
  rw [e] at this
  have e2 : ∀ r, raAt (onlyY y (bitsI s)) r = raAt y r := fun _ => rfl
  rw [e2]
  simp only
  omega
 ·rw [hl] at hk
  rw [planOf_at hi, planOf_at hk, hg i hi, hg k hk] at he ⊢
  rw [only_at y s hi, only_at y s hk]
  simp only at he ⊢
  have hd : (bitsL s)[i] ≠ (bitsL s)[k] := fun e => hne ((List.getElem_inj (bitsL_nodup s)).1 e)
  exact h.sep _ _ (hb i hi) (hb k hk) hd (by omega)
theorem only_ask {y : Ya} (hy : YaV y) {s : Nat} (hs : s < 2 ^ y.carts.length) {q : List St} (h : Fe (onlyY y (bitsI s)) q) : AsK (ry0 y) y.ramps.length s (never - 1) fun c => slotsOf q ((bitsL s).idxOf c) := by
 have hm := hy.m1
 have hy' := only_ok hy hs
 have h7 : 2 ^ y.carts.length ≤ 2 ^ 7 := Nat.pow_le_pow_right (by decide) hm
 have hl : q.length = (bitsL s).length := by rw [h.len, only_len]
 have hi : ∀ c, s.testBit c = true → (bitsL s).idxOf c < (bitsL s).length := fun c hc => List.idxOf_lt_length_of_mem ((mem_bitsL (by omega)).2 hc)
 have hq : ∀ c, s.testBit c = true → (bitsL s).idxOf c < q.length := fun c hc => by rw [hl]; exact hi c hc
 have hc : ∀ c, s.testBit c = true → ctAt (onlyY y (bitsI s)) ((bitsL s).idxOf c) = ctAt y c := fun c hc => by
  rw [only_at y s (hi c hc), List.getElem_idxOf]
 have hr : ∀ c, s.testBit c = true → (((stAt q ((bitsL s).idxOf c)).ramp.toNat : Nat) : Int) = (stAt q ((bitsL s).idxOf c)).ramp := fun c hcc => by
  have := (h.bd hy' (hq c hcc)).1
  omega
 have e2 : ∀ r, raAt (onlyY y (bitsI s)) r = raAt y r := fun _ => rfl
 refine ⟨fun c hcc => ?_, fun c hcc => ?_, fun c hcc => ?_, fun c hcc => ?_, fun c hcc => ?_, fun c hcc => ?_, fun c hcc hmu => ?_, fun c hcc r _ _ hmu => ?_, fun c d hcc hdd hne he => ?_⟩
 ·have := h.bd hy' (hq c hcc)
  have e3 : (onlyY y (bitsI s)).ramps.length = y.ramps.length := rfl
  show (stAt q _).ramp.toNat < _
  omega
 ·unfold mayB rAt slotsOf
  simp only
  rw [hr c hcc, ry0_not]
  simp only [Bool.and_eq_true, decide_eq_true_eq]
  have h1 := h.r _ (hq c hcc)
  have h2 := h.br _ (hq c hcc)
  rw [hc c hcc] at h1 h2
  exact ⟨⟨h1, h2⟩, by simp⟩
 ·have h1 := h.f1 _ (hq c hcc)
  rw [hc c hcc] at h1
  exact h1
 ·have h1 := h.f2 _ (hq c hcc)
  unfold rAt slotsOf
  simp only
  rw [hr c hcc]
  exact h1
 ·have h1 := h.f3 _ (hq c hcc)
  have h2 := h.f4 _ (hq c hcc)
  have h3 := h.bd hy' (hq c hcc)
  rw [hc c hcc] at h1 h2 h3
  rw [limF_eq]
  unfold rAt slotsOf
  simp only
  rw [hr c hcc]
  rw [e2] at h2
  have e4 : (ry0 y).til = 480 := rfl
  have e5 : (ry0 y).y = y := rfl
  rw [e4, e5]
  omega
 ·have h3 := h.bd hy' (hq c hcc)
  rw [hc c hcc] at h3
  have e5 : (ry0 y).y = y := rfl
  rw [e5]
  unfold slotsOf never
  simp only
  omega
 ·rw [ry0_mus] at hmu; simp at hmu
 ·rw [ry0_mus] at hmu; simp at hmu
 ·have hne2 : (bitsL s).idxOf c ≠ (bitsL s).idxOf d := fun e => hne (by
   have h1 := List.getElem_idxOf (hi c hcc)
   have h2 := List.getElem_idxOf (hi d hdd)
   rw [← h1, ← h2]
   congr 1)
  have he2 : (stAt q ((bitsL s).idxOf c)).ramp = (stAt q ((bitsL s).idxOf d)).ramp := by
   rw [← hr c hcc, ← hr d hdd]
   have : (stAt q ((bitsL s).idxOf c)).ramp.toNat = (stAt q ((bitsL s).idxOf d)).ramp.toNat := he
   rw [this]
  have h1 := h.sep _ _ (hq c hcc) (hq d hdd) hne2 he2
  rw [hc c hcc, hc d hdd] at h1
  exact h1
theorem canS_canB {y : Ya} (hy : YaV y) {s : Nat} (hs : s < 2 ^ y.carts.length) : canS y s = canB y (bitsI s) := by
 have h1 := soonest_iff (ry0_ok hy) (s := s) (V := never - 1) hs (by decide) (by decide)
 have h2 := servedR_best (only_ok hy hs)
 rw [Bool.eq_iff_iff]
 unfold canS canB
 rw [decide_eq_true_eq]
 constructor
 ·intro h
  have hle : (soonestL (ry0 y)).getD s 0 ≤ never - 1 := Int.le_sub_one_of_lt h
  obtain ⟨p, hp⟩ := h1.1 hle
  obtain ⟨x, hx, _⟩ := h2.2 _ (ask_only hy hs hp)
  rw [hx]; rfl
 ·intro h
  obtain ⟨x, hx⟩ := Option.isSome_iff_exists.1 h
  have := h1.2 ⟨_, only_ask hy hs (h2.1 x hx)⟩
  omega
end Go.Proofs.YtkipednlefbfpaaDoor

/- The order of sets, and the first of those picked, plain. -/
namespace Go.Proofs.YtkipednlefbfpaaDoor
def revL (l : List Int) : Nat := (l.map fun x => 2 ^ (6 - x.toNat)).sum
def rkS (l : List Int) : Nat := l.length * 128 + (127 - revL l)
def rkM (l : List Int) : Nat := (7 - l.length) * 128 + (127 - revL l)
def setOf (l : List Int) : Nat := (l.map fun x => 2 ^ x.toNat).sum
def stuckN (n : Nat) : List (List Int) := (List.range' 1 n).flatMap fun m => choices n m 0
def mostN (n : Nat) : List (List Int) := (List.range n).flatMap fun j => choices n (n - j) 0
def sortedB (f : List Int → Nat) : List (List Int) → Bool
 | [] => true
 | x :: l => l.all (fun z => Nat.blt (f x) (f z)) && sortedB f l
set_option maxRecDepth 100000 in
theorem cmpS_all : (List.range 128).all (fun a => (List.range 128).all fun b => decide (cmpS a b < 0) == Nat.blt (rkS (bitsI a)) (rkS (bitsI b))) = true := by decide +kernel
set_option maxRecDepth 100000 in
theorem cmpM_all : (List.range 128).all (fun a => (List.range 128).all fun b => decide (cmpM a b < 0) == Nat.blt (rkM (bitsI a)) (rkM (bitsI b))) = true := by decide +kernel
set_option maxRecDepth 100000 in
theorem stuckN_sorted : (List.range 8).all (fun n => sortedB rkS (stuckN n)) = true := by decide +kernel
set_option maxRecDepth 100000 in
theorem mostN_sorted : (List.range 8).all (fun n => sortedB rkM (mostN n)) = true := by decide +kernel
set_option maxRecDepth 100000 in
theorem stuckN_sets : (List.range 8).all (fun n => (stuckN n).all fun w => decide (w = bitsI (setOf w)) && Nat.blt (setOf w) (2 ^ n) && Nat.blt 0 (setOf w)) = true := by decide +kernel
set_option maxRecDepth 100000 in
theorem mostN_sets : (List.range 8).all (fun n => (mostN n).all fun w => decide (w = bitsI (setOf w)) && Nat.blt (setOf w) (2 ^ n) && Nat.blt 0 (setOf w)) = true := by decide +kernel
set_option maxRecDepth 100000 in
theorem stuckN_has : (List.range 8).all (fun n => (List.range (2 ^ n)).all fun s => Nat.beq s 0 || (stuckN n).any fun w => decide (w = bitsI s)) = true := by decide +kernel
set_option maxRecDepth 100000 in
theorem mostN_has : (List.range 8).all (fun n => (List.range (2 ^ n)).all fun s => Nat.beq s 0 || (mostN n).any fun w => decide (w = bitsI s)) = true := by decide +kernel
set_option maxRecDepth 100000 in
theorem mostN_rk : (List.range 8).all (fun n => (mostN n).all fun w => Nat.blt (rkM w) (rkM (bitsI 0))) = true := by decide +kernel
end Go.Proofs.YtkipednlefbfpaaDoor

/- What the program picks is what the reference finds, plain. -/
namespace Go.Proofs.YtkipednlefbfpaaDoor
theorem firstF_min {cf : Nat → Nat → Int} {rk : Nat → Nat} (h : ∀ a b, a < 128 → b < 128 → (cf a b < 0 ↔ rk a < rk b)) : ∀ {l : List Nat}, (∀ x ∈ l, x < 128) → l ≠ [] → firstF cf l ∈ l ∧ ∀ z ∈ l, rk (firstF cf l) ≤ rk z := by
 intro l hl hne
 cases l with
 | nil => exact absurd rfl hne
 | cons x l =>
  have key : ∀ (l : List Nat) (x : Nat), (∀ z ∈ x :: l, z < 128) → l.foldl (fun o x => if cf x o < 0 then x else o) x ∈ x :: l ∧ ∀ z ∈ x :: l, rk (l.foldl (fun o x => if cf x o < 0 then x else o) x) ≤ rk z := by
   intro l
   induction l with
   | nil => intro x _; simp
   | cons u l ih =>
    intro x hx
    have hxx := hx x (by simp)
    have hu := hx u (by simp)
    rw [List.foldl_cons]
    split
    ·rename_i hc
     have hc := (h u x hu hxx).1 hc
     obtain ⟨a, b⟩ := ih u fun z hz => hx z (by simp only [List.mem_cons] at hz ⊢; exact .inr hz)
     refine ⟨List.mem_cons_of_mem _ a, fun z hz => ?_⟩
     rcases List.mem_cons.1 hz with rfl | hz
     ·have := b u (by simp)
      omega
     ·exact b z hz
    ·rename_i hc
     have hc : ¬ rk u < rk x := fun e => hc ((h u x hu hxx).2 e)
     obtain ⟨a, b⟩ := ih x fun z hz => hx z (by
      rcases List.mem_cons.1 hz with rfl | hz
      ·simp
      ·simp [hz])
     refine ⟨?_, fun z hz => ?_⟩
     ·rcases List.mem_cons.1 a with e | e
      ·rw [e]; simp
      ·simp [e]
     ·rcases List.mem_cons.1 hz with rfl | hz
      ·exact b _ (by simp)
      ·rcases List.mem_cons.1 hz with rfl | hz
       ·have := b x (by simp)
        omega
       ·exact b z (by simp [hz])
  exact key l x hl
theorem find_pick {f : List Int → Nat} {p : List Int → Bool} {w : List Int} : ∀ {W : List (List Int)}, sortedB f W = true → w ∈ W → p w = true → (∀ z ∈ W, p z = true → f w ≤ f z) → W.find? p = some w
 | [], _, h, _, _ => by cases h
 | x :: W, hs, hw, hp, hm => by
  unfold sortedB at hs
  rw [Bool.and_eq_true, List.all_eq_true] at hs
  by_cases hx : p x = true
  ·rw [List.find?_cons_of_pos hx]
   rcases List.mem_cons.1 hw with e | e
   ·rw [e]
   ·have h1 := hs.1 w e
    have h1 : f x < f w := by simpa [Nat.blt_eq] using h1
    have h2 := hm x (by simp) hx
    omega
  ·rw [List.find?_cons_of_neg hx]
   rcases List.mem_cons.1 hw with e | e
   ·exact absurd (e ▸ hp) hx
   ·exact find_pick hs.2 e hp fun z hz => hm z (by simp [hz])
theorem all_at {n : Nat} {P : Nat → Bool} {k : Nat} (h : (List.range k).all P = true) (hn : n < k) : P n = true := List.all_eq_true.1 h n (List.mem_range.2 hn)
theorem cmpS_rk (a b : Nat) (ha : a < 128) (hb : b < 128) : cmpS a b < 0 ↔ rkS (bitsI a) < rkS (bitsI b) := by
 have h := all_at (all_at cmpS_all ha) hb
 rw [beq_iff_eq] at h
 have h2 := Bool.eq_iff_iff.1 h
 rw [decide_eq_true_iff, Nat.blt_eq] at h2
 exact h2
theorem cmpM_rk (a b : Nat) (ha : a < 128) (hb : b < 128) : cmpM a b < 0 ↔ rkM (bitsI a) < rkM (bitsI b) := by
 have h := all_at (all_at cmpM_all ha) hb
 rw [beq_iff_eq] at h
 have h2 := Bool.eq_iff_iff.1 h
 rw [decide_eq_true_iff, Nat.blt_eq] at h2
 exact h2
theorem sets_of {n : Nat} {W : List (List Int)} (h : (W.all fun w => decide (w = bitsI (setOf w)) && Nat.blt (setOf w) (2 ^ n) && Nat.blt 0 (setOf w)) = true) {w : List Int} (hw : w ∈ W) : w = bitsI (setOf w) ∧ setOf w < 2 ^ n ∧ 0 < setOf w := by
 have := List.all_eq_true.1 h w hw
 simp only [Bool.and_eq_true, decide_eq_true_eq, Nat.blt_eq] at this
 exact ⟨this.1.1, this.1.2, this.2⟩
theorem has_of {n : Nat} {W : List (List Int)} (h : ((List.range (2 ^ n)).all fun s => Nat.beq s 0 || W.any fun w => decide (w = bitsI s)) = true) {s : Nat} (hs : s < 2 ^ n) (h0 : 0 < s) : bitsI s ∈ W := by
 have := all_at h hs
 rw [Bool.or_eq_true, List.any_eq_true] at this
 rcases this with e | ⟨w, hw, e⟩
 ·have := Nat.eq_of_beq_eq_true e
  omega
 ·rw [decide_eq_true_eq] at e
  rwa [← e]
theorem can_zero {y : Ya} (hy : YaV y) : canS y 0 = true := by
 have h0 : 0 < 2 ^ y.carts.length := Nat.two_pow_pos _
 rw [canS_canB hy h0]
 obtain ⟨x, hx, _⟩ := (servedR_best (only_ok hy h0)).2 [] ⟨by rw [only_len]; rfl, fun i hi => by simp at hi, fun i hi => by simp at hi, fun i hi => by simp at hi, fun i hi => by simp at hi, fun i hi => by simp at hi, fun i hi => by simp at hi, fun i k hi => by simp at hi⟩
 unfold canB
 rw [hx]; rfl
theorem stuck_pick {y : Ya} (h1 : yErr y = 0) {l : List Nat} (hl : l.Perm ((List.range (2 ^ y.carts.length)).filter fun s => canS y s == false)) : stuckT y = (if 0 < l.length then bitsI (firstF cmpS l) else [], if 0 < l.length then 0 else 3) := by
 have hy := yErr_ok.1 h1
 have hm := hy.m1
 have h7 : 2 ^ y.carts.length ≤ 2 ^ 7 := Nat.pow_le_pow_right (by decide) hm
 have hmem : ∀ s, s ∈ l ↔ s < 2 ^ y.carts.length ∧ canS y s = false := fun s => by rw [hl.mem_iff, List.mem_filter, List.mem_range]; simp
 have hst : stuckL y = stuckN y.carts.length := rfl
 have hsets : ∀ w ∈ stuckN y.carts.length, _ := fun w => sets_of (all_at stuckN_sets (n := y.carts.length) (by omega))
 have hin : ∀ z ∈ stuckN y.carts.length, (!canB y z) = true → setOf z ∈ l := fun z hz hp => by
  obtain ⟨e, hs, _⟩ := hsets z hz
  rw [hmem]
  refine ⟨hs, ?_⟩
  rw [canS_canB hy hs, ← e]
  simpa using hp
 unfold stuckT
 rw [if_pos h1, hst]
 by_cases h0 : 0 < l.length
 ·rw [if_pos h0, if_pos h0]
  obtain ⟨hx, hmin⟩ := firstF_min (cf := cmpS) (rk := fun s => rkS (bitsI s)) cmpS_rk (l := l) (fun x hx => by have := ((hmem x).1 hx).1; omega) (by intro e; rw [e] at h0; simp at h0)
  obtain ⟨hxs, hxc⟩ := (hmem _).1 hx
  have hx0 : 0 < firstF cmpS l := by
   rcases Nat.eq_zero_or_pos (firstF cmpS l) with e | e
   ·rw [e, can_zero hy] at hxc; cases hxc
   ·exact e
  rw [find_pick (f := rkS) (w := bitsI (firstF cmpS l)) (all_at stuckN_sorted (by omega)) (has_of (all_at stuckN_has (by omega)) hxs hx0) (by rw [← canS_canB hy hxs, hxc]; rfl) fun z hz hp => ?_]
  have this : rkS (bitsI (firstF cmpS l)) ≤ rkS (bitsI (setOf z)) := hmin _ (hin z hz hp)
  rwa [← (hsets z hz).1] at this
 ·rw [if_neg h0, if_neg h0]
  have hnone : (stuckN y.carts.length).find? (fun l => !canB y l) = none := by
   rw [List.find?_eq_none]
   intro z hz hp
   have := List.length_pos_of_mem (hin z hz hp)
   omega
  rw [hnone]
theorem most_pick {y : Ya} (h1 : yErr y = 0) {l : List Nat} (hl : l.Perm ((List.range (2 ^ y.carts.length)).filter fun s => canS y s == true)) : mostT y = (bitsI (firstF cmpM l), 0) := by
 have hy := yErr_ok.1 h1
 have hm := hy.m1
 have h7 : 2 ^ y.carts.length ≤ 2 ^ 7 := Nat.pow_le_pow_right (by decide) hm
 have hmem : ∀ s, s ∈ l ↔ s < 2 ^ y.carts.length ∧ canS y s = true := fun s => by rw [hl.mem_iff, List.mem_filter, List.mem_range]; simp
 have hst : mostL y = mostN y.carts.length := rfl
 have hsets : ∀ w ∈ mostN y.carts.length, _ := fun w => sets_of (all_at mostN_sets (n := y.carts.length) (by omega))
 have hin : ∀ z ∈ mostN y.carts.length, canB y z = true → setOf z ∈ l := fun z hz hp => by
  obtain ⟨e, hs, _⟩ := hsets z hz
  rw [hmem]
  refine ⟨hs, ?_⟩
  rw [canS_canB hy hs, ← e]
  exact hp
 have hl0 : 0 ∈ l := (hmem 0).2 ⟨Nat.two_pow_pos _, can_zero hy⟩
 unfold mostT
 rw [if_pos h1, hst]
 obtain ⟨hx, hmin⟩ := firstF_min (cf := cmpM) (rk := fun s => rkM (bitsI s)) cmpM_rk (l := l) (fun x hx => by have := ((hmem x).1 hx).1; omega) (List.ne_nil_of_mem hl0)
 obtain ⟨hxs, hxc⟩ := (hmem _).1 hx
 have hle : ∀ z ∈ mostN y.carts.length, canB y z = true → rkM (bitsI (firstF cmpM l)) ≤ rkM z := fun z hz hp => by
  have this : rkM (bitsI (firstF cmpM l)) ≤ rkM (bitsI (setOf z)) := hmin _ (hin z hz hp)
  rwa [← (hsets z hz).1] at this
 rcases Nat.eq_zero_or_pos (firstF cmpM l) with e | e
 ·have hnone : (mostN y.carts.length).find? (canB y) = none := by
   rw [List.find?_eq_none]
   intro z hz hp
   have h2 := hle z hz hp
   rw [e] at h2
   have h3 := List.all_eq_true.1 (all_at mostN_rk (n := y.carts.length) (by omega)) z hz
   rw [Nat.blt_eq] at h3
   omega
  rw [hnone, e]; rfl
 ·rw [find_pick (f := rkM) (w := bitsI (firstF cmpM l)) (all_at mostN_sorted (by omega)) (has_of (all_at mostN_has (by omega)) hxs e) (by rw [← canS_canB hy hxs, hxc]) hle]
end Go.Proofs.YtkipednlefbfpaaDoor

/- The program's stuck and most are the reference's. (Vm) -/
namespace Go.Proofs.YtkipednlefbfpaaDoor.Vm
open Go Go.Proofs
theorem VC_wk {f : Nat} {args : List VV} {M : Mem} {Q Q' : VV → Mem → Prop} (h : VC Tryd.prog f args M Q) (k : ∀ r M', Q r M' → Q' r M') : VC Tryd.prog f args M Q' := h.mono k
theorem pstuck_v (y : Ya) (M : Mem) (hnr : y.ramps.length ≤ 1000000) (hmm : y.carts.length ≤ 1000000) (hl : ∀ c ∈ y.carts, c.ramps.length ≤ 1000000) : VC Tryd.prog 12 [yardV y] M (fun r M' => M' = M ∧ r = .tup [intsV (stuckT y).1, vi (stuckT y).2]) := by
 refine VC_wk (pstuck_w y M hnr hmm hl) ?_
 rintro r M' ⟨e, h⟩
 refine ⟨e, ?_⟩
 rcases h with ⟨h1, rfl⟩ | ⟨h1, l, hp, rfl⟩
 ·rw [stuckT, if_neg h1]
 ·rw [stuck_pick h1 hp]
theorem pmost_v (y : Ya) (M : Mem) (hnr : y.ramps.length ≤ 1000000) (hmm : y.carts.length ≤ 1000000) (hl : ∀ c ∈ y.carts, c.ramps.length ≤ 1000000) : VC Tryd.prog 17 [yardV y] M (fun r M' => M' = M ∧ r = .tup [intsV (mostT y).1, vi (mostT y).2]) := by
 refine VC_wk (pmost_w y M hnr hmm hl) ?_
 rintro r M' ⟨e, h⟩
 refine ⟨e, ?_⟩
 rcases h with ⟨h1, rfl⟩ | ⟨h1, l, hp, rfl⟩
 ·rw [mostT, if_neg h1]
 ·rw [most_pick h1 hp]
end Go.Proofs.YtkipednlefbfpaaDoor.Vm

/- The example's answers, plain. -/
namespace Go.Proofs.YtkipednlefbfpaaDoor
def aY : Ya := ⟨[⟨0, 60, 900⟩, ⟨10, 40, 500⟩], [⟨0, 40, ⟨15, 20⟩, 800, [0, 1]⟩, ⟨0, 60, ⟨20, 25⟩, 400, [0, 1]⟩, ⟨5, 60, ⟨20, 30⟩, 300, [0]⟩], 5⟩
def nY : Ya := ⟨[⟨0, 60, 900⟩, ⟨10, 30, 500⟩], [⟨0, 40, ⟨15, 20⟩, 800, [0, 1]⟩, ⟨0, 60, ⟨20, 25⟩, 400, [0, 1]⟩, ⟨5, 60, ⟨20, 30⟩, 300, [0]⟩], 5⟩
set_option maxRecDepth 100000 in
theorem aY_serve : serveT aY = ([⟨0, 0⟩, ⟨1, 10⟩, ⟨0, 25⟩], 55, 0) := by decide +kernel
set_option maxRecDepth 100000 in
theorem nY_stuck : stuckT nY = ([0, 1, 2], 0) := by decide +kernel
set_option maxRecDepth 100000 in
theorem nY_most : mostT nY = ([0, 1], 0) := by decide +kernel
end Go.Proofs.YtkipednlefbfpaaDoor

/- Vast yards, the example, awake, on values. (Vm) -/
namespace Go.Proofs.YtkipednlefbfpaaDoor.Vm
open Go Go.Proofs
theorem plan_v (M : Mem) : VC Tryd.prog 8 [] M (fun r M' => M' = M ∧ r = stsV [⟨0, 0⟩, ⟨1, 10⟩, ⟨0, 25⟩]) := by
 refine VC_own' T_ok (f := 8) (fn := Tryd.f8) (by kernel_rfl) rfl Tryd.ntmps8 (by rfl) (by rfl) ?_
 ((repeat refine Ws ?_);refine W_regionE T_ok ?_; intro Kn hKn)
 ((simp (maxSteps := 1000000) only [VL,VM,↓VG,reduceIte,reduceCtorEq,zA,zB,zC,zD,zE,zF,zG,zH,zI,zJ]); rw [hKn];clear hKn Kn;simp only [QV,reduceIte,reduceCtorEq,Nat.reduceEqDiff])
 ((repeat refine Ws ?_);refine W_regionE T_ok ?_; intro Kn hKn)
 ((simp (maxSteps := 1000000) only [VL,VM,↓VG,reduceIte,reduceCtorEq,zA,zB,zC,zD,zE,zF,zG,zH,zI,zJ]); rw [hKn];clear hKn Kn;simp only [QV,reduceIte,reduceCtorEq,Nat.reduceEqDiff])
 (repeat refine Ws ?_)
 refine W_ret ?_
 try simp only [thenQ, blockQ]
 refine own_ret10 rfl ?_ (by rfl)
 simp only [get_cons, frz, vtup, Nat.reduceEqDiff, if_true, if_false, reduceIte]
 rfl
theorem span_v (a b : Int) (M : Mem) : VC Tryd.prog 5 [vi a, vi b] M (fun r M' => M' = M ∧ r = spV ⟨a, b⟩) := by
 refine VC_own' T_ok (f := 5) (fn := Tryd.f5) (by kernel_rfl) rfl Tryd.ntmps5 (by rfl) (by rfl) ?_
 ((repeat refine Ws ?_);refine W_regionE T_ok ?_; intro Kn hKn)
 ((simp (maxSteps := 1000000) only [VL,VM,↓VG,reduceIte,reduceCtorEq,zA,zB,zC,zD,zE,zF,zG,zH,zI,zJ]); rw [hKn];clear hKn Kn;simp only [QV,reduceIte,reduceCtorEq,Nat.reduceEqDiff])
 ((repeat refine Ws ?_);refine W_regionE T_ok ?_; intro Kn hKn)
 ((simp (maxSteps := 1000000) only [VL,VM,↓VG,reduceIte,reduceCtorEq,zA,zB,zC,zD,zE,zF,zG,zH,zI,zJ]); rw [hKn];clear hKn Kn;simp only [QV,reduceIte,reduceCtorEq,Nat.reduceEqDiff])
 (repeat refine Ws ?_)
 refine W_ret ?_
 try simp only [thenQ, blockQ]
 refine own_retC0 (Z := spV ⟨a, b⟩) (.inr rfl) rfl ?_ rfl rfl
 simp [vload, t_span, get_cons, hget0, nat_ble, strip1]
theorem yard_v (M : Mem) : VC Tryd.prog 4 [] M (fun r M' => M' = M ∧ r = yardV aY) := by
 refine VC_own' T_ok (f := 4) (fn := Tryd.f4) (by kernel_rfl) rfl Tryd.ntmps4 (by rfl) (by rfl) ?_
 ((repeat refine Ws ?_);refine W_regionE T_ok ?_; intro Kn hKn)
 ((simp (maxSteps := 1000000) only [VL,VM,↓VG,reduceIte,reduceCtorEq,zA,zB,zC,zD,zE,zF,zG,zH,zI,zJ]); rw [hKn];clear hKn Kn;simp only [QV,reduceIte,reduceCtorEq,Nat.reduceEqDiff])
 ((repeat refine Ws ?_);refine W_regionE T_ok ?_; intro Kn hKn)
 simp (maxSteps := 1000000) only [VL,VM,↓VG,reduceIte,reduceCtorEq,zA,zB,zC,zD,zE,zF,zG,zH,zI,zJ]
 apply call_eq (f := 5) (fn := Tryd.f5) (by kernel_rfl) (by rfl)
 ·exact span_v _ _ _
 simp (maxSteps := 1000000) only [VL,VM,↓VG,reduceIte,reduceCtorEq,zA,zB,zC,zD,zE,zF,zG,zH,zI,zJ]
 apply call_eq (f := 5) (fn := Tryd.f5) (by kernel_rfl) (by rfl)
 ·exact span_v _ _ _
 simp (maxSteps := 1000000) only [VL,VM,↓VG,reduceIte,reduceCtorEq,zA,zB,zC,zD,zE,zF,zG,zH,zI,zJ]
 apply call_eq (f := 5) (fn := Tryd.f5) (by kernel_rfl) (by rfl)
 ·exact span_v _ _ _
 ((simp (maxSteps := 1000000) only [VL,VM,↓VG,reduceIte,reduceCtorEq,zA,zB,zC,zD,zE,zF,zG,zH,zI,zJ]); rw [hKn];clear hKn Kn;simp only [QV,reduceIte,reduceCtorEq,Nat.reduceEqDiff])
 (repeat refine Ws ?_)
 refine W_ret ?_
 try simp only [thenQ, blockQ]
 refine own_retC0 (Z := yardV aY) (.inr rfl) rfl ?_ rfl rfl
 simp [vload, t_yard, get_cons, hget0, nat_ble, strip1]
 exact ⟨rfl, rfl, rfl⟩
end Go.Proofs.YtkipednlefbfpaaDoor.Vm

/- Yards copied, on values. (Vm) -/
namespace Go.Proofs.YtkipednlefbfpaaDoor.Vm
open Go Go.Proofs
theorem addLg_Y (id : Nat) (rs : List Nat) (lg : List (Nat × Nat)) : ∃ X, addLg id rs lg = lg ++ X ∧ ∀ e ∈ X, e.1 = id ∧ e.2 ∈ rs := by
 unfold addLg
 split
 ·exact ⟨[], by simp, by simp⟩
 ·refine ⟨_, rfl, fun e he => ?_⟩
  obtain ⟨r, hr, rfl⟩ := List.mem_map.1 he
  refine ⟨rfl, ?_⟩
  simp only [List.mem_filter] at hr
  first | exact hr.1 | exact hr
end Go.Proofs.YtkipednlefbfpaaDoor.Vm

/- Yards compared with themselves, on values. (Vm) -/
namespace Go.Proofs.YtkipednlefbfpaaDoor.Vm
open Go Go.Proofs
end Go.Proofs.YtkipednlefbfpaaDoor.Vm

/- Slots copied, spans that hold, numbers brought within bounds. (Vm) -/
namespace Go.Proofs.YtkipednlefbfpaaDoor.Vm
open Go Go.Proofs
end Go.Proofs.YtkipednlefbfpaaDoor.Vm

/- A third table, in which slices of ramps are built as buffers of our own; the example yard in it. (Vm) -/
-- TABLE TS
namespace Go.Proofs.YtkipednlefbfpaaDoor.Vm
open Go Go.Proofs
def ownSB (t : Nat) : Bool := Nat.beq t 22
def ownS2 (T : Tab) (o : Nat → Bool) : Tab := { T with ownS := o }
section
variable {P : Program} {T : Tab} {o : Nat → Bool}
theorem ownS2_ok (h : TabOk P T) : TabOk P (ownS2 T o) := ⟨h.ty, h.fn, h.mixed⟩
theorem ownS2_ty : (ownS2 T o).ty = T.ty := rfl
theorem ownS2_fn : (ownS2 T o).fn = T.fn := rfl
theorem ownS2_bin : vbin (ownS2 T o) = vbin T := rfl
theorem ownS2_own : (ownS2 T o).own = T.own := rfl
theorem ownS2_ownS : (ownS2 T o).ownS = o := rfl
theorem ownS2_keeps : (ownS2 T o).keeps = T.keeps := rfl
end
noncomputable def TS : Tab := ownS2 T ownSB
theorem TS_ok : TabOk Tryd.prog TS := ownS2_ok T_ok
theorem xS_ty : TS.ty = T.ty := ownS2_ty
theorem xS_fn : TS.fn = T.fn := ownS2_fn
theorem xS_bin : vbin TS = vbin T := ownS2_bin
theorem xS_oi : TS.own = T.own := ownS2_own
theorem xS_oc : TS.ownS 22 = true := by rw [TS, ownS2_ownS]; rfl
theorem xS_ok : TS.ownS 27 = false ∧ TS.ownS 23 = false := by rw [TS, ownS2_ownS]; exact ⟨rfl, rfl⟩
theorem xS_keeps (f : Nat) : TS.keeps f = T.keeps f := by rw [TS, ownS2_keeps]
theorem yard_own (M : Mem) : VC Tryd.prog 4 [] M (fun r M' => (∃ Y, M' = ⟨M.H ++ [.obj [.bf (M.H.length + 1) 0 2 3, ctsV aY.carts, vi 5], .obj [vi 0, vi 60, vi 900, vi 10, vi 40, vi 500]], M.lg ++ Y⟩ ∧ ∀ e ∈ Y, M.H.length ≤ e.1) ∧ r = .agg [.bf (M.H.length + 1) 0 2 3, ctsV aY.carts, vi 5]) := by
 refine VC_esc TS_ok (f := 4) (fn := Tryd.f4) (by rw [xS_fn]; kernel_rfl) rfl Tryd.ntmps4 (by rfl) (by rw [xS_keeps]; rfl) ?_
 ((repeat refine Ws ?_);refine W_regionE TS_ok ?_; intro Kn hKn)
 ((simp (maxSteps := 1000000) only [xS_ty, xS_fn, xS_bin, xS_oi, xS_oc, xS_ok, VL,VM,↓VG,reduceIte,reduceCtorEq,zA,zB,zC,zD,zE,zF,zG,zH,zI,zJ]); rw [hKn];clear hKn Kn;simp only [QV,reduceIte,reduceCtorEq,Nat.reduceEqDiff])
 ((repeat refine Ws ?_);refine W_regionE TS_ok ?_; intro Kn hKn)
 simp (maxSteps := 1000000) only [xS_ty, xS_fn, xS_bin, xS_oi, xS_oc, xS_ok, VL,VM,↓VG,reduceIte,reduceCtorEq,zA,zB,zC,zD,zE,zF,zG,zH,zI,zJ, S_buildOwn, vbuildOwn]
 apply call_eq (f := 5) (fn := Tryd.f5) (by kernel_rfl) (by rfl)
 ·exact span_v _ _ _
 simp (maxSteps := 1000000) only [xS_ty, xS_fn, xS_bin, xS_oi, xS_oc, xS_ok, VL,VM,↓VG,reduceIte,reduceCtorEq,zA,zB,zC,zD,zE,zF,zG,zH,zI,zJ]
 apply call_eq (f := 5) (fn := Tryd.f5) (by kernel_rfl) (by rfl)
 ·exact span_v _ _ _
 simp (maxSteps := 1000000) only [xS_ty, xS_fn, xS_bin, xS_oi, xS_oc, xS_ok, VL,VM,↓VG,reduceIte,reduceCtorEq,zA,zB,zC,zD,zE,zF,zG,zH,zI,zJ]
 apply call_eq (f := 5) (fn := Tryd.f5) (by kernel_rfl) (by rfl)
 ·exact span_v _ _ _
 ((simp (maxSteps := 1000000) only [xS_ty, xS_fn, xS_bin, xS_oi, xS_oc, xS_ok, VL,VM,↓VG,reduceIte,reduceCtorEq,zA,zB,zC,zD,zE,zF,zG,zH,zI,zJ]); rw [hKn];clear hKn Kn;simp only [QV,reduceIte,reduceCtorEq,Nat.reduceEqDiff])
 (repeat refine Ws ?_)
 refine W_ret ?_
 try simp only [thenQ, blockQ]
 obtain ⟨Y, hY, g⟩ := addLg_Y M.H.length [M.H.length + 1] M.lg
 rw [hY]
 refine ⟨.inr trivial, trivial, [.agg [.bf (M.H.length + 1) 0 2 3, ctsV aY.carts, vi 5]], ?_, ⟨M.H.length + 1, ?_, Nat.le_succ _⟩, ⟨Y, rfl, fun e he => ?_⟩, ?_⟩
 ·simp [vresL, Tryd.f4, get_cons, vload, xS_ty, t_yard, nat_ble, hget0, strip1]
  rfl
 ·simp [vtup, frz, frzL, refs, refsL, hget]
 ·rw [(g e he).1]; exact Nat.le_refl _
 ·rfl
end Go.Proofs.YtkipednlefbfpaaDoor.Vm

/- The example yard with its carts in a buffer of our own. (Vm) -/
-- TABLE TX
namespace Go.Proofs.YtkipednlefbfpaaDoor.Vm
open Go Go.Proofs
def ownXB (t : Nat) : Bool := Nat.beq t 23
noncomputable def TX : Tab := ownS2 T ownXB
theorem TX_ok : TabOk Tryd.prog TX := ownS2_ok T_ok
theorem xX_ty : TX.ty = T.ty := ownS2_ty
theorem xX_fn : TX.fn = T.fn := ownS2_fn
theorem xX_bin : vbin TX = vbin T := ownS2_bin
theorem xX_oi : TX.own = T.own := ownS2_own
theorem xX_oc : TX.ownS 23 = true := by rw [TX, ownS2_ownS]; rfl
theorem xX_ok : TX.ownS 27 = false ∧ TX.ownS 22 = false := by rw [TX, ownS2_ownS]; exact ⟨rfl, rfl⟩
theorem xX_keeps (f : Nat) : TX.keeps f = T.keeps f := by rw [TX, ownS2_keeps]
abbrev ycC (n : Nat) : List VV := [rasV aY.ramps, .bf n 0 3 6, vi 5]
abbrev ycB : List VV := [vi 0, vi 40, vi 15, vi 20, vi 800, intsV [0, 1], vi 0, vi 60, vi 20, vi 25, vi 400, intsV [0, 1], vi 5, vi 60, vi 20, vi 30, vi 300, intsV [0]]
theorem yard_yc (M : Mem) : VC Tryd.prog 4 [] M (fun r M' => (∃ Y, M' = ⟨M.H ++ [.obj (ycC (M.H.length + 1)), .obj ycB], M.lg ++ Y⟩ ∧ ∀ e ∈ Y, M.H.length ≤ e.1) ∧ r = .agg (ycC (M.H.length + 1))) := by
 refine VC_esc TX_ok (f := 4) (fn := Tryd.f4) (by rw [xX_fn]; kernel_rfl) rfl Tryd.ntmps4 (by rfl) (by rw [xX_keeps]; rfl) ?_
 ((repeat refine Ws ?_);refine W_regionE TX_ok ?_; intro Kn hKn)
 ((simp (maxSteps := 1000000) only [xX_ty, xX_fn, xX_bin, xX_oi, xX_oc, xX_ok, VL,VM,↓VG,reduceIte,reduceCtorEq,zA,zB,zC,zD,zE,zF,zG,zH,zI,zJ]); rw [hKn];clear hKn Kn;simp only [QV,reduceIte,reduceCtorEq,Nat.reduceEqDiff])
 ((repeat refine Ws ?_);refine W_regionE TX_ok ?_; intro Kn hKn)
 simp (maxSteps := 1000000) only [xX_ty, xX_fn, xX_bin, xX_oi, xX_oc, xX_ok, VL,VM,↓VG,reduceIte,reduceCtorEq,zA,zB,zC,zD,zE,zF,zG,zH,zI,zJ, S_buildOwn, vbuildOwn]
 apply call_eq (f := 5) (fn := Tryd.f5) (by kernel_rfl) (by rfl)
 ·exact span_v _ _ _
 simp (maxSteps := 1000000) only [xX_ty, xX_fn, xX_bin, xX_oi, xX_oc, xX_ok, VL,VM,↓VG,reduceIte,reduceCtorEq,zA,zB,zC,zD,zE,zF,zG,zH,zI,zJ]
 apply call_eq (f := 5) (fn := Tryd.f5) (by kernel_rfl) (by rfl)
 ·exact span_v _ _ _
 simp (maxSteps := 1000000) only [xX_ty, xX_fn, xX_bin, xX_oi, xX_oc, xX_ok, VL,VM,↓VG,reduceIte,reduceCtorEq,zA,zB,zC,zD,zE,zF,zG,zH,zI,zJ]
 apply call_eq (f := 5) (fn := Tryd.f5) (by kernel_rfl) (by rfl)
 ·exact span_v _ _ _
 ((simp (maxSteps := 1000000) only [xX_ty, xX_fn, xX_bin, xX_oi, xX_oc, xX_ok, VL,VM,↓VG,reduceIte,reduceCtorEq,zA,zB,zC,zD,zE,zF,zG,zH,zI,zJ, S_buildOwn, vbuildOwn]); rw [hKn];clear hKn Kn;simp only [QV,reduceIte,reduceCtorEq,Nat.reduceEqDiff])
 (repeat refine Ws ?_)
 refine W_ret ?_
 try simp only [thenQ, blockQ]
 obtain ⟨Y, hY, g⟩ := addLg_Y M.H.length [M.H.length + 1] M.lg
 rw [hY]
 refine ⟨.inr trivial, trivial, [.agg (ycC (M.H.length + 1))], ?_, ⟨M.H.length + 1, ?_, Nat.le_succ _⟩, ⟨Y, rfl, fun e he => ?_⟩, ?_⟩
 ·simp [vresL, Tryd.f4, get_cons, vload, xX_ty, t_yard, nat_ble, hget0, strip1]
  rfl
 ·simp [vtup, frz, frzL, refs, refsL, hget]
 ·rw [(g e he).1]; exact Nat.le_refl _
 ·rfl
end Go.Proofs.YtkipednlefbfpaaDoor.Vm
