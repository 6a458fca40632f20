/- A part of the proofs about the chapter of the ramps; it states no condition of its own. -/
import Derived.Test.YthcicaelnchfdaaB23
import Derived.Test.YthcicaelnchfdaaB30
import Derived.Test.YthcicaelnchfdaaB31
set_option linter.unusedVariables false
set_option linter.unusedSimpArgs false
open Int renaming reduceLE → zA, reduceLT → zB, reduceToNat → zC, reduceNeg → zD
open Nat renaming reduceLT → zE, reduceEqDiff → zF, reduceAdd → zG, reduceSub → zH, reduceMul → zI, reduceLeDiff → zJ
/- Plans and true times made of numbers, on values. (Vm) -/
namespace Go.Proofs.Ythcicaelnchfdaa.Vm
open Go Go.Proofs
def fitB (y : Ya) (c : Ct) (r : Int) : Bool := decide (c.grams ≤ (raAt y r).bears)
def fitL (y : Ya) (c : Ct) : List Int := c.ramps.filter (fitB y c)
def slotsS (y : Ya) (m u : Int) : Nat → Bool × Int × List St
 | 0 => (true, u, [])
 | k + 1 =>
  let s := slotsS y m u k
  if s.1 = true then
   (if fitL y (ctAt y k) = [] then (false, s.2.1, [])
    else (true, castU (oneU s.2.1 (fitL y (ctAt y k))) (m + 1), s.2.2 ++ [⟨oneF s.2.1 (fitL y (ctAt y k)), castF (oneU s.2.1 (fitL y (ctAt y k))) (m + 1)⟩]))
  else s
theorem slotsS_stop {y : Ya} {m u : Int} {k : Nat} (h : (slotsS y m u k).1 = false) : ∀ j, slotsS y m u (k + j) = slotsS y m u k
 | 0 => rfl
 | j + 1 => by
  have ih := slotsS_stop h j
  rw [← Nat.add_assoc, slotsS, ih]
  simp [h]
theorem own_ret2D {f : Nat} {fn : Func} {lg : List (Nat × Nat)} {H0 : List VObj} {d : Nat} (hd : d < H0.length) {u v : Int} {L : List VObj} {e : Env} {t t' : Nat} {X Y : VV} {Q : VV → Mem → Prop} (h1 : fn.results.toList = [.tmp t, .tmp t']) (hr : frz H0.length (DH H0 d v L) (get e t) = X) (hr' : frz H0.length (DH H0 d v L) (get e t') = Y) (h2 : refs X = []) (h2' : refs Y = []) (hq : Q (.tup [X, Y]) ⟨DH H0 d v [], lg⟩) : ownQ T f fn ⟨DH H0 d u [], lg⟩ Q .ret e ⟨DH H0 d v L, lg⟩ [] :=
 ⟨.inr rfl, rfl, ⟨[], by simp, by simp⟩, DH H0 d v [], L, DH_eq hd, by rw [DH_len, DH_len], [get e t, get e t'], by rw [h1]; rfl, .tup [X, Y], by rw [DH_len0]; simp only [vtup, frz, frzL, hr, hr'], by simp [refs, refsL, h2, h2'], hq⟩
structure SlA where
 i : Nat
 v : Int
 l : List St
 junk : List VObj
structure SlB where
 k : Nat
 f : List Int
attribute [local irreducible] castF castU fromF fromU oneF oneU
set_option maxHeartbeats 4000000 in
set_option maxRecDepth 8000 in
theorem slotsOf_d {H0 : List VObj} {d : Nat} (hd : d < H0.length) (u : Int) (lg : List (Nat × Nat)) {y : Ya} (hy : YaV y) (lens : y.ramps.length ≤ 1000000 ∧ y.carts.length ≤ 1000000 ∧ ∀ c ∈ y.carts, c.ramps.length ≤ 1000000) (m : Int) (hm : 0 ≤ m ∧ m ≤ 480) :
  VC Try.prog 36 [.ptr d 0, yardV y, vi m] ⟨DH H0 d u [], lg⟩ (fun r M' => M' = ⟨DH H0 d (slotsS y m u y.carts.length).2.1 [], lg⟩ ∧ r = .tup [stsV (slotsS y m u y.carts.length).2.2, vb (slotsS y m u y.carts.length).1]) := by
 suffices hh : VC Try.prog 36 [.ptr d 0, yardV y, vi m] ⟨DH H0 d u [], lg⟩ (fun r M' => ∃ (b : Bool) (u' : Int) (l : List St), M' = ⟨DH H0 d u' [], lg⟩ ∧ r = .tup [stsV l, vb b] ∧ slotsS y m u y.carts.length = (b, u', l)) by
  refine hh.mono ?_
  rintro _ _ ⟨b, u', l, rfl, rfl, e⟩
  rw [e]
  exact ⟨rfl, rfl⟩
 have km : -9223372036854775808 ≤ m + 1 ∧ m + 1 < 9223372036854775808 := by omega
 have hc7 := hy.m1
 refine VC_own' T_ok (f := 36) (fn := Try.f36) (by kernel_rfl) rfl Try.ntmps36 (by rfl) (by rfl) ?_
 ((repeat refine Ws ?_);refine Wr ?_)
 simp (maxSteps := 1000000) only [VL,VM,↓VG,reduceIte,reduceCtorEq,zA,zB,zC,zD,zE,zF,zG,zH,zI,zJ, DH_app hd, DH_len, DH_len0, DH_get hd, DH_get0 hd, DH_set hd, DH_set0 hd, DH_setd, DH_die hd]
 ((repeat refine Ws ?_);refine Wr ?_)
 simp (maxSteps := 1000000) only [VL,VM,↓VG,reduceIte,reduceCtorEq,zA,zB,zC,zD,zE,zF,zG,zH,zI,zJ, DH_app hd, DH_len, DH_len0, DH_get hd, DH_get0 hd, DH_set hd, DH_set0 hd, DH_setd, DH_die hd]
 (repeat refine Ws ?_)
 refine W_tok (t := 8) (k := 2) rfl ?_
 simp (maxSteps := 1000000) only [VL,VM,↓VG,reduceIte,reduceCtorEq,zA,zB,zC,zD,zE,zF,zG,zH,zI,zJ, DH_app hd, DH_len, DH_len0, DH_get hd, DH_get0 hd, DH_set hd, DH_set0 hd, DH_setd, DH_die hd]
 obtain ⟨n, hn⟩ : ∃ n, H0.length = n := ⟨_, rfl⟩
 rw [hn] at hd ⊢
 have dg : ∀ u L k, (DH H0 d u L)[n + k]? = L[k]? := fun u L k => by rw [← hn]; exact DH_get (hn ▸ hd) k
 have dg0 : ∀ u L, (DH H0 d u L)[n]? = L[0]? := fun u L => by rw [← hn]; exact DH_get0 (hn ▸ hd)
 have ds : ∀ u L k o, (DH H0 d u L).set (n + k) o = DH H0 d u (L.set k o) := fun u L k o => by rw [← hn]; exact DH_set (hn ▸ hd) k o
 have dl : ∀ u L, (DH H0 d u L).length = n + L.length := fun u L => by rw [← hn]; exact DH_len
 have da : ∀ u L X, DH H0 d u L ++ X = DH H0 d u (L ++ X) := fun u L X => DH_app (hn ▸ hd) X
 have hd' : d < H0.length := by rw [hn]; exact hd
 ((repeat refine Ws ?_);refine Wr ?_)
 simp (maxSteps := 1000000) only [VL,VM,↓VG,reduceIte,reduceCtorEq,zA,zB,zC,zD,zE,zF,zG,zH,zI,zJ]
 ((repeat refine Ws ?_);refine W_block ?_; (repeat refine Ws ?_)); refine W_loopS (fun s : SlA => [(0, .ptr d 0), (2, vi m), (4, .ptr n 0), (8, .so (n + 1) 2 (s.l.map stP)), (9, vi s.i)]) (fun s => ⟨DH H0 d s.v (.obj (yardC y) :: .clm s.l.length 2 :: s.junk), lg⟩) (fun s => y.carts.length - s.i) (fun s => s.i ≤ y.carts.length ∧ s.l.length = s.i ∧ slotsS y m u s.i = (true, s.v, s.l)) ⟨0, u, [], []⟩ ⟨Nat.zero_le _, rfl, rfl⟩ ⟨rfl, rfl, rfl, rfl, rfl, trivial⟩ rfl ?_
 rintro ⟨i, v, l, junk⟩ ⟨hi, hll, hsl⟩
 simp only at hi hll hsl
 have k1 : -9223372036854775808 ≤ (i : Int) + 1 ∧ (i : Int) + 1 < 9223372036854775808 := by omega
 ((repeat refine Ws ?_);refine W_regionE T_ok ?_; intro Kn hKn)
 rcases Nat.lt_or_ge i y.carts.length with hlt | hge
 rotate_left
 ·have k2 : ((i : Int) < (y.carts.length : Int)) = False := eq_false (by omega)
  obtain rfl : i = y.carts.length := by omega
  ((simp (maxSteps := 1000000) only [VL,VM,↓VG,reduceIte,reduceCtorEq,zA,zB,zC,zD,zE,zF,zG,zH,zI,zJ, dg0, k2]); rw [hKn];clear hKn Kn;simp only [QV,reduceIte,reduceCtorEq,Nat.reduceEqDiff])
  ((repeat refine Ws ?_);refine Wf (by first|rfl|simp only [EV,zF,reduceIte]) ?_)
  (((repeat refine Ws ?_);refine W_exit ?_); simp only [QV,reduceIte,reduceCtorEq,Nat.reduceEqDiff])
  ((repeat refine Ws ?_);refine W_regionE T_ok ?_; intro Kn hKn)
  ((simp (maxSteps := 1000000) only [VL,VM,↓VG,reduceIte,reduceCtorEq,zA,zB,zC,zD,zE,zF,zG,zH,zI,zJ]); rw [hKn];clear hKn Kn;simp only [QV,reduceIte,reduceCtorEq,Nat.reduceEqDiff])
  (repeat refine Ws ?_)
  refine W_ret ?_
  try simp only [thenQ, blockQ]
  refine own_ret2D hd' (X := stsV l) (Y := vb true) rfl ?_ ?_ rfl rfl ⟨true, v, l, rfl, rfl, hsl⟩
  ·simp [get_cons, frz]
  ·simp [get_cons, frz]
 have k2 : ((i : Int) < (y.carts.length : Int)) = True := eq_true (by omega)
 have hcx := map_at (f := ctP) (ctAt_get hlt)
 have hcv := hy.ct _ (ctAt_mem hlt)
 have hcl := lens.2.2 _ (ctAt_mem hlt)
 have hst : slotsS y m u (i + 1) = if fitL y (ctAt y i) = [] then (false, v, []) else (true, castU (oneU v (fitL y (ctAt y i))) (m + 1), l ++ [⟨oneF v (fitL y (ctAt y i)), castF (oneU v (fitL y (ctAt y i))) (m + 1)⟩]) := by
  rw [slotsS, hsl]; rfl
 generalize ctAt y i = c at hcx hcv hcl hst
 ((simp (maxSteps := 1000000) only [VL,VM,↓VG,reduceIte,reduceCtorEq,zA,zB,zC,zD,zE,zF,zG,zH,zI,zJ, dg0, k2]); rw [hKn];clear hKn Kn;simp only [QV,reduceIte,reduceCtorEq,Nat.reduceEqDiff])
 ((repeat refine Ws ?_);refine Wt (by first|rfl|simp only [EV,zF,reduceIte]) ?_)
 (((repeat refine Ws ?_);refine W_skip ?_); simp only [QV,reduceIte,reduceCtorEq,Nat.reduceEqDiff])
 ((repeat refine Ws ?_);refine W_block ?_)
 obtain ⟨L1, hL1⟩ : ∃ L1, L1 = VObj.obj (yardC y) :: .clm l.length 2 :: junk := ⟨_, rfl⟩
 obtain ⟨H1, hH1⟩ : ∃ H1, H1 = H0 ++ L1 := ⟨_, rfl⟩
 have hd1 : d < H1.length := by rw [hH1, List.length_append]; omega
 have gy : ∀ u L, (DH H1 d u L)[n]? = some (VObj.obj (yardC y)) := fun u L => by
  have : DH H1 d u L = DH H0 d u (L1 ++ L) := by rw [hH1, DH_base, List.append_assoc, ← DH_base]
  rw [this, dg0, hL1]; rfl
 rw [← hL1, show DH H0 d v L1 = DH H1 d v [] by rw [hH1, DH_base]]
 ((repeat refine Ws ?_);refine Wr ?_)
 simp (maxSteps := 1000000) only [VL,VM,↓VG,reduceIte,reduceCtorEq,zA,zB,zC,zD,zE,zF,zG,zH,zI,zJ]
 (repeat refine Ws ?_)
 refine W_tok (t := 10) (k := 1) rfl ?_
 simp (maxSteps := 1000000) only [VL,VM,↓VG,reduceIte,reduceCtorEq,zA,zB,zC,zD,zE,zF,zG,zH,zI,zJ, DH_app hd1, DH_len, DH_len0, DH_get hd1, DH_get0 hd1, DH_set hd1, DH_set0 hd1]
 ((repeat refine Ws ?_);refine Wr ?_)
 simp (maxSteps := 1000000) only [VL,VM,↓VG,reduceIte,reduceCtorEq,zA,zB,zC,zD,zE,zF,zG,zH,zI,zJ]
 ((repeat refine Ws ?_);refine W_block ?_; (repeat refine Ws ?_)); refine W_loopS (fun s : SlB => [(0, .ptr d 0), (2, vi m), (4, .ptr n 0), (8, .so (n + 1) 2 (l.map stP)), (9, vi i), (10, .so H1.length 1 (s.f.map intP)), (11, vi s.k)]) (fun s => ⟨DH H1 d v [.clm s.f.length 1], lg⟩) (fun s => c.ramps.length - s.k) (fun s => s.k ≤ c.ramps.length ∧ s.f = (c.ramps.take s.k).filter (fitB y c)) ⟨0, []⟩ ⟨Nat.zero_le _, rfl⟩ ⟨rfl, rfl, rfl, rfl, rfl, rfl, rfl, trivial⟩ rfl ?_
 rintro ⟨k, f⟩ ⟨hk, hf⟩
 simp only at hk hf
 have hfl : f.length ≤ k := by
  rw [hf]
  refine Nat.le_trans (List.length_filter_le _ _) ?_
  rw [List.length_take]; omega
 have z1 : -9223372036854775808 ≤ (k : Int) + 1 ∧ (k : Int) + 1 < 9223372036854775808 := by omega
 ((repeat refine Ws ?_);refine W_regionE T_ok ?_; intro Kn hKn)
 rcases Nat.lt_or_ge k c.ramps.length with hlk | hgk
 ·have z2 : ((k : Int) < (c.ramps.length : Int)) = True := eq_true (by omega)
  have hr : c.ramps[k]? = some c.ramps[k] := List.getElem?_eq_getElem hlk
  have hrr := hcv.r _ (List.getElem_mem hlk)
  have htk : (c.ramps.take (k + 1)).filter (fitB y c) = if fitB y c c.ramps[k] = true then f ++ [c.ramps[k]] else f := by
   rw [List.take_add_one, hr, List.filter_append, ← hf]
   by_cases hb : fitB y c c.ramps[k] = true
   ·simp [hb]
   ·simp [hb]
  generalize c.ramps[k] = r at hr hrr htk
  have hr' := map_at (f := intP) hr
  have hra := map_at (f := raP) (raAt_get (y := y) hrr.1 hrr.2)
  have hr0 : (0 ≤ r) = True := eq_true hrr.1
  have q2 : ((f.length + 1) * 8 ≤ 140737488355328) = True := eq_true (by omega)
  ((simp (maxSteps := 1000000) only [VL,VM,↓VG,reduceIte,reduceCtorEq,zA,zB,zC,zD,zE,zF,zG,zH,zI,zJ, gy, hcx, z2]); rw [hKn];clear hKn Kn;simp only [QV,reduceIte,reduceCtorEq,Nat.reduceEqDiff])
  ((repeat refine Ws ?_);refine Wt (by first|rfl|simp only [EV,zF,reduceIte]) ?_)
  (((repeat refine Ws ?_);refine W_skip ?_); simp only [QV,reduceIte,reduceCtorEq,Nat.reduceEqDiff])
  ((repeat refine Ws ?_);refine W_block ?_)
  ·skip
   (repeat refine Ws ?_)
   refine W_drawE T_ok [] (by kernel_rfl) (by kernel_rfl) ?_
   intro Kn hKn
   generalize hi : mkPlan _ = infs
   cbv at hi
   subst hi
   by_cases hb : c.grams ≤ (raAt y r).bears
   ·rw [if_pos (by unfold fitB; exact decide_eq_true hb)] at htk
    ((simp (maxSteps := 1000000) only [VL,VM,↓VG,reduceIte,reduceCtorEq,zA,zB,zC,zD,zE,zF,zG,zH,zI,zJ, gy, hcx, hr', hr0, hra, hb]); rw [hKn];clear hKn Kn;simp only [QV,reduceIte,reduceCtorEq,Nat.reduceEqDiff])
    ((repeat refine Ws ?_);refine Wt (by first|rfl|simp only [EV,zF,reduceIte]) ?_)
    ((repeat refine Ws ?_);refine W_regionE T_ok ?_; intro Kn hKn)
    ((simp (maxSteps := 1000000) only [VL,VM,↓VG,reduceIte,reduceCtorEq,zA,zB,zC,zD,zE,zF,zG,zH,zI,zJ, gy, hcx, hr', DH_app hd1, DH_len, DH_len0, DH_get hd1, DH_get0 hd1, DH_set hd1, DH_set0 hd1, q2]); rw [hKn];clear hKn Kn;simp only [QV,reduceIte,reduceCtorEq,Nat.reduceEqDiff])
    ((repeat refine Ws ?_);refine W_regionE T_ok ?_; intro Kn hKn)
    ((simp (maxSteps := 1000000) only [VL,VM,↓VG,reduceIte,reduceCtorEq,zA,zB,zC,zD,zE,zF,zG,zH,zI,zJ, z1]); rw [hKn];clear hKn Kn;simp only [QV,reduceIte,reduceCtorEq,Nat.reduceEqDiff])
    refine LoopK.mk ⟨k + 1, f ++ [r]⟩ (by simp only; omega) ⟨by simp only; omega, htk.symm⟩ ⟨rfl, rfl, rfl, rfl, rfl, ?_, rfl, trivial⟩ (by simp)
    simp [get_cons]
   ·rw [if_neg (by unfold fitB; simpa using hb)] at htk
    ((simp (maxSteps := 1000000) only [VL,VM,↓VG,reduceIte,reduceCtorEq,zA,zB,zC,zD,zE,zF,zG,zH,zI,zJ, gy, hcx, hr', hr0, hra, hb]); rw [hKn];clear hKn Kn;simp only [QV,reduceIte,reduceCtorEq,Nat.reduceEqDiff])
    ((repeat refine Ws ?_);refine Wf (by first|rfl|simp only [EV,zF,reduceIte]) ?_)
    (((repeat refine Ws ?_);refine W_skip ?_); simp only [QV,reduceIte,reduceCtorEq,Nat.reduceEqDiff])
    ((repeat refine Ws ?_);refine W_regionE T_ok ?_; intro Kn hKn)
    ((simp (maxSteps := 1000000) only [VL,VM,↓VG,reduceIte,reduceCtorEq,zA,zB,zC,zD,zE,zF,zG,zH,zI,zJ, z1]); rw [hKn];clear hKn Kn;simp only [QV,reduceIte,reduceCtorEq,Nat.reduceEqDiff])
    refine LoopK.mk ⟨k + 1, f⟩ (by simp only; omega) ⟨by simp only; omega, htk.symm⟩ ⟨rfl, rfl, rfl, rfl, rfl, rfl, rfl, trivial⟩ rfl
 have z2 : ((k : Int) < (c.ramps.length : Int)) = False := eq_false (by omega)
 obtain rfl : k = c.ramps.length := by omega
 rw [List.take_length] at hf
 rw [← show f = fitL y c from hf] at hst
 ((simp (maxSteps := 1000000) only [VL,VM,↓VG,reduceIte,reduceCtorEq,zA,zB,zC,zD,zE,zF,zG,zH,zI,zJ, gy, hcx, z2]); rw [hKn];clear hKn Kn;simp only [QV,reduceIte,reduceCtorEq,Nat.reduceEqDiff])
 ((repeat refine Ws ?_);refine Wf (by first|rfl|simp only [EV,zF,reduceIte]) ?_)
 (((repeat refine Ws ?_);refine W_exit ?_); simp only [QV,reduceIte,reduceCtorEq,Nat.reduceEqDiff])
 ((repeat refine Ws ?_);refine W_regionE T_ok ?_; intro Kn hKn)
 by_cases hf0 : f = []
 ·subst hf0
  rw [if_pos rfl] at hst
  ((simp (maxSteps := 1000000) only [VL,VM,↓VG,reduceIte,reduceCtorEq,zA,zB,zC,zD,zE,zF,zG,zH,zI,zJ, show ((([] : List Int).length : Int) = 0) = True from eq_true rfl, show (((0 : Nat) : Int) = 0) = True from eq_true rfl]); rw [hKn];clear hKn Kn;simp only [QV,reduceIte,reduceCtorEq,Nat.reduceEqDiff])
  ((repeat refine Ws ?_);refine Wt (by first|rfl|simp only [EV,zF,reduceIte]) ?_)
  ((repeat refine Ws ?_);refine W_regionE T_ok ?_; intro Kn hKn)
  ((simp (maxSteps := 1000000) only [VL,VM,↓VG,reduceIte,reduceCtorEq,zA,zB,zC,zD,zE,zF,zG,zH,zI,zJ]); rw [hKn];clear hKn Kn;simp only [QV,reduceIte,reduceCtorEq,Nat.reduceEqDiff])
  (repeat refine Ws ?_)
  refine W_nil (t := 6) (k := 2) rfl ?_
  (repeat refine Ws ?_)
  refine W_ret ?_
  try simp only [thenQ, blockQ]
  rw [show DH H1 d v [VObj.clm 0 1] = DH H0 d v (L1 ++ [.clm 0 1]) by rw [hH1, DH_base, List.append_assoc, ← DH_base]]
  refine own_ret2D hd' (X := stsV []) (Y := vb false) rfl ?_ ?_ rfl rfl ⟨false, v, [], rfl, rfl, ?_⟩
  ·simp [get_cons, frz]
  ·simp [get_cons, frz]
  ·skip
   have := slotsS_stop (y := y) (m := m) (u := u) (k := i + 1) (by rw [hst]) (y.carts.length - (i + 1))
   rw [show i + 1 + (y.carts.length - (i + 1)) = y.carts.length by omega] at this
   rw [this, hst]
 ·rw [if_neg hf0] at hst
  have hfn : ((f.length : Int) = 0) = False := eq_false (by have := List.length_pos_iff.2 hf0; omega)
  ((simp (maxSteps := 1000000) only [VL,VM,↓VG,reduceIte,reduceCtorEq,zA,zB,zC,zD,zE,zF,zG,zH,zI,zJ, hfn]); rw [hKn];clear hKn Kn;simp only [QV,reduceIte,reduceCtorEq,Nat.reduceEqDiff])
  ((repeat refine Ws ?_);refine Wf (by first|rfl|simp only [EV,zF,reduceIte]) ?_)
  (((repeat refine Ws ?_);refine W_skip ?_); simp only [QV,reduceIte,reduceCtorEq,Nat.reduceEqDiff])
  have back : ∀ w, DH H1 d w [VObj.clm f.length 1] = DH H0 d w (.obj (yardC y) :: .clm l.length 2 :: (junk ++ [.clm f.length 1])) := fun w => by
   rw [hH1, DH_base, List.append_assoc, ← DH_base, hL1]; rfl
  have q1 : ((l.length + 1) * 16 ≤ 140737488355328) = True := eq_true (by omega)
  ((repeat refine Ws ?_);refine Wr ?_)
  simp (maxSteps := 1000000) only [VL,VM,↓VG,reduceIte,reduceCtorEq,zA,zB,zC,zD,zE,zF,zG,zH,zI,zJ]
  apply call_eq (f := 19) (fn := Try.f19) (by kernel_rfl) (by rfl)
  ·exact one_c hd1 v f lg (by have := List.length_pos_iff.2 hf0; omega) (by omega)
  generalize oneF v f = a at hst ⊢
  generalize oneU v f = v2 at hst ⊢
  simp (maxSteps := 1000000) only [VL,VM,↓VG,reduceIte,reduceCtorEq,zA,zB,zC,zD,zE,zF,zG,zH,zI,zJ, km]
  apply call_eq (f := 33) (fn := Try.f33) (by kernel_rfl) (by rfl)
  ·exact cast_c hd1 v2 (m + 1) lg (by omega)
  generalize castF v2 (m + 1) = b at hst ⊢
  generalize castU v2 (m + 1) = v3 at hst ⊢
  rw [back]
  simp (maxSteps := 1000000) only [VL,VM,↓VG,reduceIte,reduceCtorEq,zA,zB,zC,zD,zE,zF,zG,zH,zI,zJ, dg, dg0, ds, dl, da, q1]
  ((repeat refine Ws ?_);refine Wr ?_)
  simp (maxSteps := 1000000) only [VL,VM,↓VG,reduceIte,reduceCtorEq,zA,zB,zC,zD,zE,zF,zG,zH,zI,zJ, k1]
  refine LoopK.mk ⟨i + 1, v3, l ++ [⟨a, b⟩], junk ++ [.clm f.length 1]⟩ (by simp only; omega) ⟨by simp only; omega, by simp [hll], hst⟩ ⟨rfl, rfl, rfl, ?_, rfl, trivial⟩ (by simp)
  simp [get_cons]
end Go.Proofs.Ythcicaelnchfdaa.Vm

/- Bounds of plans made of numbers; true times made of numbers. (Vm) -/
namespace Go.Proofs.Ythcicaelnchfdaa.Vm
open Go Go.Proofs
theorem stAt_app {l : List St} {s : St} {i : Nat} : stAt (l ++ [s]) i = if i < l.length then stAt l i else if i = l.length then s else St0 := by
 unfold stAt
 rw [List.getD_eq_getElem?_getD, List.getD_eq_getElem?_getD]
 split
 ·rename_i h; rw [List.getElem?_append_left h]
 ·rename_i h
  rw [List.getElem?_append_right (by omega)]
  split
  ·rename_i h2; rw [h2, Nat.sub_self]; rfl
  ·rename_i h2
   rw [List.getElem?_eq_none (by simp; omega)]; rfl
theorem slots_bd {y : Ya} {m u : Int} (hy : YaV y) (hm : 0 ≤ m ∧ m ≤ 480) : ∀ (k : Nat), k ≤ y.carts.length → ∀ v l, slotsS y m u k = (true, v, l) → l.length = k ∧ ∀ i, i < k → (stAt l i).ramp ∈ (ctAt y i).ramps ∧ (ctAt y i).grams ≤ (raAt y (stAt l i).ramp).bears ∧ 0 ≤ (stAt l i).from_ ∧ (stAt l i).from_ ≤ m
 | 0, _, v, l, h => by
  simp only [slotsS, Prod.mk.injEq, true_and] at h
  rw [← h.2]
  exact ⟨rfl, fun i hi => by omega⟩
 | k + 1, hk, v, l, h => by
  rw [slotsS] at h
  cases hb : (slotsS y m u k).1 with
  | false =>
   simp only [hb, if_false, Bool.false_eq_true] at h
   rw [h] at hb; cases hb
  | true =>
   simp only [hb, if_true] at h
   obtain ⟨h1, h2⟩ := slots_bd hy hm k (by omega) (slotsS y m u k).2.1 (slotsS y m u k).2.2 (by rw [← hb])
   split at h
   ·simp at h
   ·rename_i hf
    simp only [Prod.mk.injEq, true_and] at h
    obtain ⟨_, rfl⟩ := h
    have hfl : (fitL y (ctAt y k)).length ≤ (ctAt y k).ramps.length := List.length_filter_le _ _
    have hcv := hy.ct _ (ctAt_mem (y := y) (i := k) (by omega))
    have hr3 : (ctAt y k).ramps.length ≤ 1000000 := by
     have : ∀ (l : List Int) (a b : Int), (∀ x ∈ l, a ≤ x ∧ x < b) → l.Pairwise (· < ·) → (l.length : Int) ≤ max 0 (b - a) := by
      intro l
      induction l with
      | nil => intro a b _ _; simp; omega
      | cons x l ih =>
       intro a b hx hp
       obtain ⟨p1, p2⟩ := List.pairwise_cons.1 hp
       have := ih (x + 1) b (fun z hz => ⟨by have := p1 z hz; omega, (hx z (by simp [hz])).2⟩) p2
       have hx0 := hx x (by simp)
       simp only [List.length_cons]
       omega
     have := this _ 0 _ hcv.r hcv.asc
     have := hy.n1
     omega
    have hmem := oneF_mem (u := (slotsS y m u k).2.1) (xs := fitL y (ctAt y k)) (by have := List.length_pos_iff.2 hf; omega) (by omega)
    have hc := castF_range (u := oneU (slotsS y m u k).2.1 (fitL y (ctAt y k))) (n := m + 1) (by omega)
    refine ⟨by simp [h1], fun i hi => ?_⟩
    rw [stAt_app]
    by_cases hik : i < k
    ·rw [if_pos (by omega)]; exact h2 i hik
    ·rw [if_neg (by omega), if_pos (by omega), show i = k by omega]
     have hm2 := List.mem_filter.1 hmem
     refine ⟨hm2.1, by simpa [fitB] using hm2.2, hc.1, ?_⟩
     simp only
     omega
theorem slots_pl {y : Ya} {m u v : Int} {l : List St} (hy : YaV y) (hm : 0 ≤ m ∧ m ≤ 480) (h : slotsS y m u y.carts.length = (true, v, l)) : PlV y l := by
 obtain ⟨h1, h2⟩ := slots_bd hy hm _ (Nat.le_refl _) v l h
 have hr : ∀ i, i < l.length → 0 ≤ (stAt l i).ramp ∧ (stAt l i).ramp < y.ramps.length := fun i hi => (hy.ct _ (ctAt_mem (by omega))).r _ (h2 i (by omega)).1
 exact ⟨h1, fun i hi => (hr i hi).1, fun i hi => (hr i hi).2, fun i hi => (h2 i (by omega)).1, fun i hi => (h2 i (by omega)).2.1, fun i hi => (h2 i (by omega)).2.2.1, fun i hi => by have := (h2 i (by omega)).2.2.2; omega⟩
def takesS (y : Ya) (u : Int) : Nat → Int × List Int
 | 0 => (u, [])
 | k + 1 => (trueU (takesS y u k).1 (ctAt y k).takes, (takesS y u k).2 ++ [trueF (takesS y u k).1 (ctAt y k).takes])
theorem takes_bd {y : Ya} {u : Int} (hy : YaV y) : ∀ (k : Nat), k ≤ y.carts.length → (takesS y u k).2.length = k ∧ ∀ i, i < k → (ctAt y i).takes.lo ≤ tkAt (takesS y u k).2 i ∧ tkAt (takesS y u k).2 i ≤ (ctAt y i).takes.hi
 | 0, _ => ⟨rfl, fun i hi => by omega⟩
 | k + 1, hk => by
  obtain ⟨h1, h2⟩ := takes_bd (u := u) hy k (by omega)
  have hcv := hy.ct _ (ctAt_mem (y := y) (i := k) (by omega))
  have c1 := hcv.lh
  have c2 := hcv.h1
  have c3 := hcv.l0
  have ht := trueF_range (u := (takesS y u k).1) (x := (ctAt y k).takes) c1 (by omega)
  rw [takesS]
  refine ⟨by simp [h1], fun i hi => ?_⟩
  have hat : ∀ (l : List Int) (x : Int), tkAt (l ++ [x]) i = if i < l.length then tkAt l i else if i = l.length then x else 0 := fun l x => by
   unfold tkAt
   rw [List.getD_eq_getElem?_getD, List.getD_eq_getElem?_getD]
   split
   ·rename_i h; rw [List.getElem?_append_left h]
   ·rename_i h
    rw [List.getElem?_append_right (by omega)]
    split
    ·rename_i h2; rw [h2, Nat.sub_self]; rfl
    ·rename_i h2
     rw [List.getElem?_eq_none (by simp; omega)]; rfl
  rw [hat]
  by_cases hik : i < k
  ·rw [if_pos (by omega)]; exact h2 i hik
  ·rw [if_neg (by omega), if_pos (by omega), show i = k by omega]; exact ht
structure TkA where
 i : Nat
 v : Int
 l : List Int
attribute [local irreducible] castF castU fromF fromU oneF oneU trueF trueU
theorem true_c {H0 : List VObj} {d : Nat} (hd : d < H0.length) (u : Int) (x : Sp) {L : List VObj} (lg : List (Nat × Nat)) (h0 : 0 ≤ x.lo) (h1 : x.lo ≤ x.hi) (h2 : x.hi ≤ 100000000) : VC Try.prog 88 [.ptr d 0, spV x] ⟨DH H0 d u L, lg⟩ (fun r M' => M' = ⟨DH H0 d (trueU u x) L, lg⟩ ∧ r = vi (trueF u x)) := by
 rw [DH_base, DH_base (u := trueU u x)]
 exact true_v (by rw [List.length_append]; omega) u x lg h0 h1 h2
set_option maxHeartbeats 4000000 in
set_option maxRecDepth 8000 in
theorem trueTakes_d {H0 : List VObj} {d : Nat} (hd : d < H0.length) (u : Int) (lg : List (Nat × Nat)) {y : Ya} (hy : YaV y) :
  VC Try.prog 52 [.ptr d 0, yardV y] ⟨DH H0 d u [], lg⟩ (fun r M' => M' = ⟨DH H0 d (takesS y u y.carts.length).1 [], lg⟩ ∧ r = intsV (takesS y u y.carts.length).2) := by
 have hc7 := hy.m1
 refine VC_own' T_ok (f := 52) (fn := Try.f52) (by kernel_rfl) rfl Try.ntmps52 (by rfl) (by rfl) ?_
 ((repeat refine Ws ?_);refine Wr ?_)
 simp (maxSteps := 1000000) only [VL,VM,↓VG,reduceIte,reduceCtorEq,zA,zB,zC,zD,zE,zF,zG,zH,zI,zJ, DH_app hd, DH_len, DH_len0, DH_get hd, DH_get0 hd, DH_set hd, DH_set0 hd, DH_setd, DH_die hd]
 ((repeat refine Ws ?_);refine Wr ?_)
 simp (maxSteps := 1000000) only [VL,VM,↓VG,reduceIte,reduceCtorEq,zA,zB,zC,zD,zE,zF,zG,zH,zI,zJ, DH_app hd, DH_len, DH_len0, DH_get hd, DH_get0 hd, DH_set hd, DH_set0 hd, DH_setd, DH_die hd]
 (repeat refine Ws ?_)
 refine W_tok (t := 5) (k := 1) rfl ?_
 simp (maxSteps := 1000000) only [VL,VM,↓VG,reduceIte,reduceCtorEq,zA,zB,zC,zD,zE,zF,zG,zH,zI,zJ, DH_app hd, DH_len, DH_len0, DH_get hd, DH_get0 hd, DH_set hd, DH_set0 hd, DH_setd, DH_die hd]
 obtain ⟨n, hn⟩ : ∃ n, H0.length = n := ⟨_, rfl⟩
 rw [hn] at hd ⊢
 have dg : ∀ u L k, (DH H0 d u L)[n + k]? = L[k]? := fun u L k => by rw [← hn]; exact DH_get (hn ▸ hd) k
 have dg0 : ∀ u L, (DH H0 d u L)[n]? = L[0]? := fun u L => by rw [← hn]; exact DH_get0 (hn ▸ hd)
 have ds : ∀ u L k o, (DH H0 d u L).set (n + k) o = DH H0 d u (L.set k o) := fun u L k o => by rw [← hn]; exact DH_set (hn ▸ hd) k o
 have hd' : d < H0.length := by rw [hn]; exact hd
 ((repeat refine Ws ?_);refine Wr ?_)
 simp (maxSteps := 1000000) only [VL,VM,↓VG,reduceIte,reduceCtorEq,zA,zB,zC,zD,zE,zF,zG,zH,zI,zJ]
 ((repeat refine Ws ?_);refine W_block ?_; (repeat refine Ws ?_)); refine W_loopS (fun s : TkA => [(0, .ptr d 0), (3, .ptr n 0), (5, .so (n + 1) 1 (s.l.map intP)), (6, vi s.i)]) (fun s => ⟨DH H0 d s.v [.obj (yardC y), .clm s.l.length 1], lg⟩) (fun s => y.carts.length - s.i) (fun s => s.i ≤ y.carts.length ∧ s.l.length = s.i ∧ takesS y u s.i = (s.v, s.l)) ⟨0, u, []⟩ ⟨Nat.zero_le _, rfl, rfl⟩ ⟨rfl, rfl, rfl, rfl, trivial⟩ rfl ?_
 rintro ⟨i, v, l⟩ ⟨hi, hll, hsl⟩
 simp only at hi hll hsl
 have k1 : -9223372036854775808 ≤ (i : Int) + 1 ∧ (i : Int) + 1 < 9223372036854775808 := by omega
 ((repeat refine Ws ?_);refine Wr ?_)
 rcases Nat.lt_or_ge i y.carts.length with hlt | hge
 rotate_left
 ·have k2 : ((i : Int) < (y.carts.length : Int)) = False := eq_false (by omega)
  obtain rfl : i = y.carts.length := by omega
  simp (maxSteps := 1000000) only [VL,VM,↓VG,reduceIte,reduceCtorEq,zA,zB,zC,zD,zE,zF,zG,zH,zI,zJ, dg0, k2]
  ((repeat refine Ws ?_);refine Wf (by first|rfl|simp only [EV,zF,reduceIte]) ?_)
  ((repeat refine Ws ?_);refine W_exit ?_)
  simp (maxSteps := 1000000) only [VL,VM,↓VG,reduceIte,reduceCtorEq,zA,zB,zC,zD,zE,zF,zG,zH,zI,zJ]
  ((repeat refine Ws ?_);refine Wr ?_)
  simp (maxSteps := 1000000) only [VL,VM,↓VG,reduceIte,reduceCtorEq,zA,zB,zC,zD,zE,zF,zG,zH,zI,zJ]
  rw [hsl]
  (repeat refine Ws ?_)
  refine W_ret ?_
  try simp only [thenQ, blockQ]
  refine own_retD hd' rfl ?_ (by rfl)
  simp only [get_cons, frz, vtup, Nat.reduceEqDiff, if_true, if_false, reduceIte]
 have k2 : ((i : Int) < (y.carts.length : Int)) = True := eq_true (by omega)
 have hcx := map_at (f := ctP) (ctAt_get hlt)
 have hcv := hy.ct _ (ctAt_mem hlt)
 have c1 := hcv.lh
 have c2 := hcv.h1
 have c3 := hcv.l0
 have hst : takesS y u (i + 1) = (trueU v (ctAt y i).takes, l ++ [trueF v (ctAt y i).takes]) := by rw [takesS, hsl]
 generalize ctAt y i = c at hcx c1 c2 c3 hst
 have q1 : ((l.length + 1) * 8 ≤ 140737488355328) = True := eq_true (by omega)
 simp (maxSteps := 1000000) only [VL,VM,↓VG,reduceIte,reduceCtorEq,zA,zB,zC,zD,zE,zF,zG,zH,zI,zJ, dg0, k2]
 ((repeat refine Ws ?_);refine Wt (by first|rfl|simp only [EV,zF,reduceIte]) ?_)
 ((repeat refine Ws ?_);refine W_skip ?_)
 simp (maxSteps := 1000000) only [VL,VM,↓VG,reduceIte,reduceCtorEq,zA,zB,zC,zD,zE,zF,zG,zH,zI,zJ]
 ((repeat refine Ws ?_);refine W_block ?_)
 ((repeat refine Ws ?_);refine Wr ?_)
 simp (maxSteps := 1000000) only [VL,VM,↓VG,reduceIte,reduceCtorEq,zA,zB,zC,zD,zE,zF,zG,zH,zI,zJ, dg0, hcx]
 apply call_eq (f := 88) (fn := Try.f88) (by kernel_rfl) (by rfl)
 ·exact true_c hd' v c.takes lg (by omega) c1 (by omega)
 generalize trueF v c.takes = b at hst ⊢
 generalize trueU v c.takes = v2 at hst ⊢
 simp (maxSteps := 1000000) only [VL,VM,↓VG,reduceIte,reduceCtorEq,zA,zB,zC,zD,zE,zF,zG,zH,zI,zJ, dg, ds, q1]
 ((repeat refine Ws ?_);refine Wr ?_)
 simp (maxSteps := 1000000) only [VL,VM,↓VG,reduceIte,reduceCtorEq,zA,zB,zC,zD,zE,zF,zG,zH,zI,zJ, k1]
 refine LoopK.mk ⟨i + 1, v2, l ++ [b]⟩ (by simp only; omega) ⟨by simp only; omega, by simp [hll], hst⟩ ⟨rfl, rfl, ?_, rfl, trivial⟩ (by simp)
 simp [get_cons]
end Go.Proofs.Ythcicaelnchfdaa.Vm
