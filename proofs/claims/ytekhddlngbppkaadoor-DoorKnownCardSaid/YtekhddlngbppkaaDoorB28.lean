/- A part of the proofs about the chapter of the doors; it states no condition of its own. -/
import Derived.Test.YtekhddlngbppkaaDoorB14
import Derived.Test.YtekhddlngbppkaaDoorB19
import Derived.Test.YtekhddlngbppkaaDoorB26
import Derived.Test.YtekhddlngbppkaaDoorB27
import Derived.Shelf.Strings.BuilderK
import Derived.Shelf.LaysM
import Derived.Shelf.Strconv.Itoa3
import Derived.Test.YtekhddlngbppkaaDoorProg
import Derived.Lib.Split
import Derived.Lib.SplitLaws
import Derived.Lib.ItoaNum
import Derived.Lib.AtoiAll
import Derived.Test.YtekhddlngbppkaaDoorRows
set_option linter.unusedVariables false
set_option linter.unusedSimpArgs false
open Int renaming reduceLE → zA, reduceLT → zB, reduceToNat → zC, reduceNeg → zD
open Nat renaming reduceLT → zE, reduceEqDiff → zF, reduceAdd → zG, reduceSub → zH, reduceMul → zI, reduceLeDiff → zJ
/- Inside, and the chapter's examples as values. (Vm) -/
namespace Go.Proofs.YtekhddlngbppkaaDoor.Vm
open Go Go.Proofs
def insideR (h : Ho) : VV := if houseErr h = 0 then (match insideH h with
 | some l => .tup [spsV l, vi 0]
 | none => .tup [.p (.sl 0 []), vi 9]) else .tup [.p (.sl 0 []), vi (houseErr h)]
theorem Inside_v (h : Ho) (M : Mem) (hl : h.holds.length ≤ 1000000) (hld : h.doors.length ≤ 1000000) (hlc : h.counts.length ≤ 1000000) : VC Tryd.prog 6 [houseV h] M (fun r M' => M' = M ∧ r = insideR h) := by
 refine VC_own' T_ok (f := 6) (fn := Tryd.f6) (by kernel_rfl) rfl Tryd.ntmps6 (by rfl) (by rfl) ?_
 ((repeat refine Ws ?_);refine Wr ?_)
 simp (maxSteps := 1000000) only [VL,VM,↓VG,reduceIte,reduceCtorEq,zA,zB,zC,zD,zE,zF,zG,zH,zI,zJ]
 ((repeat refine Ws ?_);refine Wr ?_)
 simp (maxSteps := 1000000) only [VL,VM,↓VG,reduceIte,reduceCtorEq,zA,zB,zC,zD,zE,zF,zG,zH,zI,zJ]
 apply call_eq (f := 8) (fn := Tryd.f8) (by kernel_rfl) (by rfl)
 ·exact check_v h _ hl hld hlc
 simp (maxSteps := 1000000) only [VL,VM,↓VG,reduceIte,reduceCtorEq,zA,zB,zC,zD,zE,zF,zG,zH,zI,zJ]
 ((repeat refine Ws ?_);refine Wr ?_)
 by_cases a1 : houseErr h = 0
 rotate_left
 ·simp (maxSteps := 1000000) only [VL,VM,↓VG,reduceIte,reduceCtorEq,zA,zB,zC,zD,zE,zF,zG,zH,zI,zJ, a1]
  ((repeat refine Ws ?_);refine Wt (by first|rfl|simp only [EV,zF,reduceIte]) ?_)
  ((repeat refine Ws ?_);refine Wr ?_)
  simp (maxSteps := 1000000) only [VL,VM,↓VG,reduceIte,reduceCtorEq,zA,zB,zC,zD,zE,zF,zG,zH,zI,zJ]
  (repeat refine Ws ?_)
  refine W_ret ?_
  try simp only [thenQ, blockQ]
  refine own_ret (vs := [.sf 0 [], vi (houseErr h)]) (r := .tup [.p (.sl 0 []), vi (houseErr h)]) rfl (by simp [vtup, frz, frzL]) (by simp [refs, refsL]) ⟨rfl, ?_⟩
  unfold insideR
  rw [if_neg a1]
 simp (maxSteps := 1000000) only [VL,VM,↓VG,reduceIte,reduceCtorEq,zA,zB,zC,zD,zE,zF,zG,zH,zI,zJ, a1]
 ((repeat refine Ws ?_);refine Wf (by first|rfl|simp only [EV,zF,reduceIte]) ?_)
 ((repeat refine Ws ?_);refine W_skip ?_)
 simp (maxSteps := 1000000) only [VL,VM,↓VG,reduceIte,reduceCtorEq,zA,zB,zC,zD,zE,zF,zG,zH,zI,zJ]
 ((repeat refine Ws ?_);refine Wr ?_)
 simp (maxSteps := 1000000) only [VL,VM,↓VG,reduceIte,reduceCtorEq,zA,zB,zC,zD,zE,zF,zG,zH,zI,zJ]
 apply call_eq (f := 13) (fn := Tryd.f13) (by kernel_rfl) (by rfl)
 ·exact inside_v h (houseErr_ok.1 a1) _
 have hR : insideR h = (match insideH h with
  | some l => .tup [spsV l, vi 0]
  | none => .tup [.p (.sl 0 []), vi 9]) := if_pos a1
 unfold insR
 cases hi : insideH h with
 | none =>
  rw [hi] at hR
  simp (maxSteps := 1000000) only [VL,VM,↓VG,reduceIte,reduceCtorEq,zA,zB,zC,zD,zE,zF,zG,zH,zI,zJ]
  ((repeat refine Ws ?_);refine Wr ?_)
  simp (maxSteps := 1000000) only [VL,VM,↓VG,reduceIte,reduceCtorEq,zA,zB,zC,zD,zE,zF,zG,zH,zI,zJ]
  ((repeat refine Ws ?_);refine Wt (by first|rfl|simp only [EV,zF,reduceIte]) ?_)
  ((repeat refine Ws ?_);refine Wr ?_)
  simp (maxSteps := 1000000) only [VL,VM,↓VG,reduceIte,reduceCtorEq,zA,zB,zC,zD,zE,zF,zG,zH,zI,zJ]
  (repeat refine Ws ?_)
  refine W_ret ?_
  try simp only [thenQ, blockQ]
  refine own_ret (vs := [.sf 0 [], vi 9]) (r := .tup [.p (.sl 0 []), vi 9]) rfl (by simp [vtup, frz, frzL]) (by simp [refs, refsL]) ⟨rfl, hR.symm⟩
 | some l =>
  rw [hi] at hR
  simp (maxSteps := 1000000) only [VL,VM,↓VG,reduceIte,reduceCtorEq,zA,zB,zC,zD,zE,zF,zG,zH,zI,zJ]
  ((repeat refine Ws ?_);refine Wr ?_)
  simp (maxSteps := 1000000) only [VL,VM,↓VG,reduceIte,reduceCtorEq,zA,zB,zC,zD,zE,zF,zG,zH,zI,zJ]
  ((repeat refine Ws ?_);refine Wf (by first|rfl|simp only [EV,zF,reduceIte]) ?_)
  ((repeat refine Ws ?_);refine W_skip ?_)
  simp (maxSteps := 1000000) only [VL,VM,↓VG,reduceIte,reduceCtorEq,zA,zB,zC,zD,zE,zF,zG,zH,zI,zJ]
  ((repeat refine Ws ?_);refine Wr ?_)
  simp (maxSteps := 1000000) only [VL,VM,↓VG,reduceIte,reduceCtorEq,zA,zB,zC,zD,zE,zF,zG,zH,zI,zJ]
  (repeat refine Ws ?_)
  refine W_ret ?_
  try simp only [thenQ, blockQ]
  refine own_ret (vs := [spsV l, vi 0]) (r := .tup [spsV l, vi 0]) rfl (by simp [vtup, frz, frzL]) (by simp [refs, refsL]) ⟨rfl, hR.symm⟩
theorem spanl_v (a b : Int) (M : Mem) : VC Tryd.prog 5 [vi a, vi b] M (fun r M' => M' = M ∧ r = spV ⟨a, b⟩) := by
 refine VC_own' T_ok (f := 5) (fn := Tryd.f5) (by kernel_rfl) rfl Tryd.ntmps5 (by rfl) (by rfl) ?_
 ((repeat refine Ws ?_);refine Wr ?_)
 simp (maxSteps := 1000000) only [VL,VM,↓VG,reduceIte,reduceCtorEq,zA,zB,zC,zD,zE,zF,zG,zH,zI,zJ]
 ((repeat refine Ws ?_);refine Wr ?_)
 simp (maxSteps := 1000000) only [VL,VM,↓VG,reduceIte,reduceCtorEq,zA,zB,zC,zD,zE,zF,zG,zH,zI,zJ]
 (repeat refine Ws ?_)
 refine W_ret ?_
 try simp only [thenQ, blockQ]
 refine own_ret (L := [.obj [vi a, vi b]]) (vs := [spV ⟨a, b⟩]) ?_ rfl rfl ⟨rfl, rfl⟩
 simp [Tryd.f5, vresL, vload, t_span, get_cons, hget0, strip1]
 rfl
end Go.Proofs.YtekhddlngbppkaaDoor.Vm
namespace Go.Proofs.YtekhddlngbppkaaDoor
def hH : Ho := ⟨[100, 50], [⟨0, -1, 20⟩, ⟨0, 1, 10⟩, ⟨1, -1, 5⟩], ⟨10, 15⟩, 3, [⟨0, 0, ⟨20, 25⟩, ⟨0, 5⟩⟩, ⟨1, 0, ⟨5, 5⟩, ⟨10, 20⟩⟩, ⟨2, 2, ⟨0, 0⟩, ⟨30, 30⟩⟩]⟩
def kK : Kn := ⟨[30, 20, 40], [⟨0, 0, 25⟩, ⟨0, 2, 40⟩, ⟨1, 1, 30⟩]⟩
theorem hH_err : houseErr hH = 0 := by decide +kernel
theorem hH_inside : insideH hH = some [⟨10, 15⟩, ⟨35, 40⟩, ⟨30, 35⟩, ⟨0, 5⟩] := by decide +kernel
theorem kK_err : kitErr kK = 0 := by decide +kernel
end Go.Proofs.YtekhddlngbppkaaDoor
namespace Go.Proofs.YtekhddlngbppkaaDoor.Vm
open Go Go.Proofs
theorem house_v (M : Mem) : VC Tryd.prog 4 [] M (fun r M' => M' = M ∧ r = houseV hH) := by
 refine VC_own' T_ok (f := 4) (fn := Tryd.f4) (by kernel_rfl) rfl Tryd.ntmps4 (by rfl) (by rfl) ?_
 ((repeat refine Ws ?_);refine Wr ?_)
 simp (maxSteps := 1000000) only [VL,VM,↓VG,reduceIte,reduceCtorEq,zA,zB,zC,zD,zE,zF,zG,zH,zI,zJ]
 ((repeat refine Ws ?_);refine Wr ?_)
 simp (maxSteps := 1000000) only [VL,VM,↓VG,reduceIte,reduceCtorEq,zA,zB,zC,zD,zE,zF,zG,zH,zI,zJ]
 apply call_eq (f := 5) (fn := Tryd.f5) (by kernel_rfl) (by rfl)
 ·exact spanl_v 10 15 _
 simp (maxSteps := 1000000) only [VL,VM,↓VG,reduceIte,reduceCtorEq,zA,zB,zC,zD,zE,zF,zG,zH,zI,zJ]
 apply call_eq (f := 5) (fn := Tryd.f5) (by kernel_rfl) (by rfl)
 ·exact spanl_v 20 25 _
 simp (maxSteps := 1000000) only [VL,VM,↓VG,reduceIte,reduceCtorEq,zA,zB,zC,zD,zE,zF,zG,zH,zI,zJ]
 apply call_eq (f := 5) (fn := Tryd.f5) (by kernel_rfl) (by rfl)
 ·exact spanl_v 0 5 _
 simp (maxSteps := 1000000) only [VL,VM,↓VG,reduceIte,reduceCtorEq,zA,zB,zC,zD,zE,zF,zG,zH,zI,zJ]
 apply call_eq (f := 5) (fn := Tryd.f5) (by kernel_rfl) (by rfl)
 ·exact spanl_v 5 5 _
 simp (maxSteps := 1000000) only [VL,VM,↓VG,reduceIte,reduceCtorEq,zA,zB,zC,zD,zE,zF,zG,zH,zI,zJ]
 apply call_eq (f := 5) (fn := Tryd.f5) (by kernel_rfl) (by rfl)
 ·exact spanl_v 10 20 _
 simp (maxSteps := 1000000) only [VL,VM,↓VG,reduceIte,reduceCtorEq,zA,zB,zC,zD,zE,zF,zG,zH,zI,zJ]
 apply call_eq (f := 5) (fn := Tryd.f5) (by kernel_rfl) (by rfl)
 ·exact spanl_v 30 30 _
 simp (maxSteps := 1000000) only [VL,VM,↓VG,reduceIte,reduceCtorEq,zA,zB,zC,zD,zE,zF,zG,zH,zI,zJ]
 (repeat refine Ws ?_)
 refine W_ret ?_
 try simp only [thenQ, blockQ]
 refine own_ret (vs := [houseV hH]) ?_ rfl rfl ⟨rfl, rfl⟩
 simp [Tryd.f4, vresL, vload, t_house, get_cons, hget0, strip1]
 rfl
theorem kitchen_v (M : Mem) : VC Tryd.prog 15 [] M (fun r M' => M' = M ∧ r = kitV kK) := by
 refine VC_own' T_ok (f := 15) (fn := Tryd.f15) (by kernel_rfl) rfl Tryd.ntmps15 (by rfl) (by rfl) ?_
 ((repeat refine Ws ?_);refine Wr ?_)
 simp (maxSteps := 1000000) only [VL,VM,↓VG,reduceIte,reduceCtorEq,zA,zB,zC,zD,zE,zF,zG,zH,zI,zJ]
 ((repeat refine Ws ?_);refine Wr ?_)
 simp (maxSteps := 1000000) only [VL,VM,↓VG,reduceIte,reduceCtorEq,zA,zB,zC,zD,zE,zF,zG,zH,zI,zJ]
 (repeat refine Ws ?_)
 refine W_ret ?_
 try simp only [thenQ, blockQ]
 refine own_ret (vs := [kitV kK]) ?_ rfl rfl ⟨rfl, rfl⟩
 simp [Tryd.f15, vresL, vload, t_kitchen, get_cons, hget0, strip1]
 rfl
end Go.Proofs.YtekhddlngbppkaaDoor.Vm

/- Flows in numbers: a certificate that a computer checks. -/
namespace Go.Proofs.YtekhddlngbppkaaDoor
structure Wn where
 fr : Nat
 to : Nat
 most : Nat
 deriving DecidableEq
def Wn.wa (w : Wn) : Wa := ⟨w.fr, w.to, (w.most : Int)⟩
def atN (R : List (List Nat)) (i j : Nat) : Nat := (R.getD i []).getD j 0
def updN (R : List (List Nat)) (i j x : Nat) : List (List Nat) := R.set i ((R.getD i []).set j x)
def zerosN (N : Nat) : List (List Nat) := List.replicate N (List.replicate N 0)
def tabN (N : Nat) (ws : List Wn) : List (List Nat) := ws.foldl (fun R w => updN R w.fr w.to (Nat.add (atN R w.fr w.to) w.most)) (zerosN N)
def intT (R : List (List Nat)) : List (List Int) := R.map fun r => r.map fun n : Nat => (n : Int)
theorem intT_at (R : List (List Nat)) (i j : Nat) : at2 (intT R) i j = ((atN R i j : Nat) : Int) := by
 unfold at2 atN intT
 simp only [List.getD_eq_getElem?_getD, List.getElem?_map]
 cases R[i]? with
 | none => simp
 | some r =>
  simp only [Option.map_some, Option.getD_some, List.getElem?_map]
  cases r[j]? <;> simp
theorem intT_upd (R : List (List Nat)) (i j x : Nat) : intT (updN R i j x) = upd2 (intT R) i j (x : Int) := by
 unfold intT updN upd2
 rw [List.map_set, List.map_set]
 congr 2
 simp only [List.getD_eq_getElem?_getD, List.getElem?_map]
 cases R[i]? <;> simp
theorem intT_tab (N : Nat) (ws : List Wn) : tabOfW N (ws.map Wn.wa) = intT (tabN N ws) := by
 have key : ∀ (ws : List Wn) (R : List (List Nat)), (ws.map Wn.wa).foldl add2 (intT R) = intT (ws.foldl (fun R w => updN R w.fr w.to (Nat.add (atN R w.fr w.to) w.most)) R) := by
  intro ws
  induction ws with
  | nil => intro R; rfl
  | cons w ws ih =>
   intro R
   rw [List.map_cons, List.foldl_cons, List.foldl_cons, ← ih, intT_upd]
   congr 1
   unfold add2 Wn.wa
   simp only [intT_at]
   congr 1
 have h0 : zeros2 N = intT (zerosN N) := by simp [zeros2, zerosN, intT]
 unfold tabOfW tabN
 rw [h0]
 exact key ws _
def rangeB : Nat → (Nat → Bool) → Bool
 | 0, _ => true
 | n + 1, f => (f n).and (rangeB n f)
theorem rangeB_ok {f : Nat → Bool} : ∀ {n : Nat}, rangeB n f = true → ∀ i, i < n → f i = true
 | n + 1, h, i, hi => by
  simp only [rangeB, Bool.and_eq_true] at h
  rcases Nat.lt_succ_iff_lt_or_eq.1 hi with q | rfl
  ·exact rangeB_ok h.2 i q
  ·exact h.1
def sumUp : Nat → (Nat → Nat) → Nat
 | 0, _ => 0
 | n + 1, f => Nat.add (sumUp n f) (f n)
theorem sumUp_int (f : Nat → Nat) : ∀ n, ((sumUp n f : Nat) : Int) = sumTo n fun i => ((f i : Nat) : Int)
 | 0 => rfl
 | n + 1 => by
  rw [sumTo_succ, ← sumUp_int f n]
  rfl
def cutN (N : Nat) (C : List (List Nat)) (S : List Bool) : Nat := sumUp N fun i => cond (S.getD i false) (sumUp N fun j => cond (S.getD j false) 0 (atN C i j)) 0
def certN (N : Nat) (C R : List (List Nat)) (S : List Bool) (v : Nat) : Bool :=
 (rangeB N fun i => rangeB N fun j => Nat.beq (Nat.add (atN R i j) (atN R j i)) (Nat.add (atN C i j) (atN C j i))).and
 ((Nat.beq (sumUp N (atN C 0)) (Nat.add (sumUp N (atN R 0)) v)).and
 ((rangeB N fun i => (Nat.beq i 0).or ((Nat.beq i 1).or (Nat.beq (sumUp N (atN C i)) (sumUp N (atN R i))))).and
 ((S.getD 0 false).and ((!S.getD 1 false).and (Nat.beq (cutN N C S) v)))))
theorem certN_ok {N : Nat} {C R : List (List Nat)} {S : List Bool} {v : Nat} (h : certN N C R S v = true) : MF N (intT C) (v : Int) := by
 unfold certN at h
 simp only [Bool.and_eq_true] at h
 obtain ⟨h1, h2, h3, h4, h5, h6⟩ := h
 refine ⟨⟨intT R, ?_, ?_, ?_, ?_⟩, fun i => S.getD i false, h4, by simpa using h5, ?_⟩
 ·intro i j _ _
  rw [intT_at]; omega
 ·intro i j hi hj
  have := Nat.eq_of_beq_eq_true (rangeB_ok (rangeB_ok h1 i hi) j hj)
  simp only [intT_at]
  have e : atN R i j + atN R j i = atN C i j + atN C j i := this
  omega
 ·rw [sumTo_sub]
  have e : sumUp N (atN C 0) = sumUp N (atN R 0) + v := Nat.eq_of_beq_eq_true h2
  have a := sumUp_int (atN C 0) N
  have b := sumUp_int (atN R 0) N
  rw [show at2 (intT C) 0 = fun j => ((atN C 0 j : Nat) : Int) from funext (intT_at C 0), show at2 (intT R) 0 = fun j => ((atN R 0 j : Nat) : Int) from funext (intT_at R 0)]
  omega
 ·intro i hi h0 h1'
  have := rangeB_ok h3 i hi
  simp only [Bool.or_eq_true] at this
  rcases this with q | q | q
  ·exact absurd (Nat.eq_of_beq_eq_true q) h0
  ·exact absurd (Nat.eq_of_beq_eq_true q) h1'
  ·have e : sumUp N (atN C i) = sumUp N (atN R i) := Nat.eq_of_beq_eq_true q
   have a := sumUp_int (atN C i) N
   have b := sumUp_int (atN R i) N
   rw [sumTo_sub]
   rw [show at2 (intT C) i = fun j => ((atN C i j : Nat) : Int) from funext (intT_at C i), show at2 (intT R) i = fun j => ((atN R i j : Nat) : Int) from funext (intT_at R i)]
   omega
 ·have e : cutN N C S = v := Nat.eq_of_beq_eq_true h6
  rw [← e]
  unfold cutOf cutN
  rw [sumUp_int]
  refine sumTo_congr fun i hi => ?_
  show (sumTo N fun j => if (S.getD i false && !S.getD j false) = true then at2 (intT C) i j else 0) = ((cond (S.getD i false) (sumUp N fun j => cond (S.getD j false) 0 (atN C i j)) 0 : Nat) : Int)
  cases S.getD i false with
  | false =>
   have h0 := sumTo_const0 N
   simpa using h0
  | true =>
   rw [cond_true, sumUp_int]
   refine sumTo_congr fun j hj => ?_
   cases S.getD j false with
   | true => rfl
   | false => exact intT_at C i j
def dfsN (N : Nat) : Nat → List (List Nat) → List Bool → Nat → Nat → List Nat → Nat × List (List Nat) × List Bool
 | 0, R, met, _, _, _ => (0, R, met)
 | _ + 1, R, met, _, _, [] => (0, R, met)
 | f + 1, R, met, a, n, t :: ts =>
  cond ((met.getD t true).or (Nat.beq (atN R a t) 0)) (dfsN N f R met a n ts)
   (cond (Nat.beq t 1) (let k := cond (Nat.ble n (atN R a t)) n (atN R a t); (k, updN (updN R a t (Nat.sub (atN R a t) k)) t a (Nat.add (atN R t a) k), met))
     (match dfsN N f R (met.set t true) t (cond (Nat.ble n (atN R a t)) n (atN R a t)) (List.range N) with
      | (0, _, met') => dfsN N f R met' a n ts
      | (k + 1, R', met') => (k + 1, updN (updN R' a t (Nat.sub (atN R' a t) (k + 1))) t a (Nat.add (atN R' t a) (k + 1)), met')))
def solveN (N : Nat) : Nat → List (List Nat) → Nat → Nat × List (List Nat) × List Bool
 | 0, R, v => (v, R, [])
 | f + 1, R, v => match dfsN N 5000 R ((List.replicate N false).set 0 true) 0 1073741824 (List.range N) with
  | (0, _, met) => (v, R, met)
  | (k + 1, R', _) => solveN N f R' (Nat.add v (k + 1))
def mfN (N : Nat) (ws : List Wn) : Option Nat :=
 match solveN N 200 (tabN N ws) 0 with
 | (v, R, S) => cond (certN N (tabN N ws) R S v) (some v) none
theorem mfN_ok {N : Nat} (hN : 2 ≤ N) {ws : List Wn} {v : Nat} (h : mfN N ws = some v) : mfv N (tabOfW N (ws.map Wn.wa)) = (v : Int) := by
 refine mfv_eq hN ?_
 rw [intT_tab]
 unfold mfN at h
 obtain ⟨⟨v', R, S⟩, hs⟩ : ∃ q, q = solveN N 200 (tabN N ws) 0 := ⟨_, rfl⟩
 rw [← hs] at h
 simp only at h
 cases hc : certN N (tabN N ws) R S v' with
 | false => rw [hc] at h; cases h
 | true =>
  rw [hc] at h
  cases h
  exact certN_ok hc
def Wa.wn (w : Wa) : Wn := ⟨w.fr, w.to, w.most.toNat⟩
theorem mfW_ok {N : Nat} (hN : 2 ≤ N) {ws : List Wa} {v : Nat} (h0 : ∀ w ∈ ws, 0 ≤ w.most) (h : mfN N (ws.map Wa.wn) = some v) : mfv N (tabOfW N ws) = (v : Int) := by
 have e : ws = (ws.map Wa.wn).map Wn.wa := by
  rw [List.map_map]
  conv => lhs; rw [← List.map_id ws]
  refine List.map_congr_left fun w hw => ?_
  have := h0 w hw
  cases w with
  | mk a b m =>
   simp only [Function.comp, Wa.wn, Wn.wa, id]
   congr 1
   exact (Int.toNat_of_nonneg this).symm
 rw [e]
 exact mfN_ok hN h
end Go.Proofs.YtekhddlngbppkaaDoor

/- The numbers of the chapter's examples. (Vm) -/
namespace Go.Proofs.YtekhddlngbppkaaDoor
open Vm
theorem leaveV_of {nH t : Nat} {ds : List Do} {closed : List Int} {come : Nat → Int} {v : Nat} (h : mfN (2 + (t + 1) * nH) ((waysOf nH ds t closed come).map Wa.wn) = some v) (h0 : ((waysOf nH ds t closed come).all fun w => decide (0 ≤ w.most)) = true) : leaveV nH ds t closed come = (v : Int) := mfW_ok (by omega) (fun w hw => by simpa using List.all_eq_true.1 h0 w hw) h
theorem lv0 : leaveV 2 hH.doors 0 [] (comeOf [0, 50]) = (0 : Nat) := leaveV_of (by decide +kernel) (by decide +kernel)
theorem lv1 : leaveV 2 hH.doors 1 [] (comeOf [0, 50]) = (5 : Nat) := leaveV_of (by decide +kernel) (by decide +kernel)
theorem lv2 : leaveV 2 hH.doors 2 [] (comeOf [0, 50]) = (20 : Nat) := leaveV_of (by decide +kernel) (by decide +kernel)
theorem lv3 : leaveV 2 hH.doors 3 [] (comeOf [0, 50]) = (35 : Nat) := leaveV_of (by decide +kernel) (by decide +kernel)
theorem lv4 : leaveV 2 hH.doors 4 [] (comeOf [0, 50]) = (50 : Nat) := leaveV_of (by decide +kernel) (by decide +kernel)
theorem hH_leave : leaveR hH [0, 50] [] = (4, 0) := by
 have he : leaveErr hH [0, 50] [] = 0 := by decide +kernel
 have hT : leaveT hH [0, 50] [] = some 4 := by
  refine find_range (by omega) (fun j hj => decide_eq_false ?_) (decide_eq_true ?_)
  ·rcases j with _ | _ | _ | _ | j
   ·exact fun e => absurd (lv0.symm.trans e) (by decide)
   ·exact fun e => absurd (lv1.symm.trans e) (by decide)
   ·exact fun e => absurd (lv2.symm.trans e) (by decide)
   ·exact fun e => absurd (lv3.symm.trans e) (by decide)
   ·omega
  ·exact lv4
 unfold leaveR
 rw [if_pos he, hT]
 rfl
theorem as0 : leaveV 2 hH.doors 3 [] (comeS 0) = (0 : Nat) := leaveV_of (by decide +kernel) (by decide +kernel)
theorem as1 : leaveV 2 hH.doors 3 [] (comeS 1) = (70 : Nat) := leaveV_of (by decide +kernel) (by decide +kernel)
theorem as2 : leaveV 2 hH.doors 3 [] (comeS 2) = (35 : Nat) := leaveV_of (by decide +kernel) (by decide +kernel)
theorem as3 : leaveV 2 hH.doors 3 [] (comeS 3) = (75 : Nat) := leaveV_of (by decide +kernel) (by decide +kernel)
theorem hH_admit : admitR hH 3 [] = (35, 0) := by
 have he : ticksErr hH 0 3 [] = 0 := by decide +kernel
 have hV : admitV hH 3 [] = 35 := by
  have o0 : outS hH 3 [] 0 = 0 := as0
  have o1 : outS hH 3 [] 1 = 70 := as1
  have o2 : outS hH 3 [] 2 = 35 := as2
  have o3 : outS hH 3 [] 3 = 75 := as3
  show bestS hH 3 [] (bestS hH 3 [] (bestS hH 3 [] (bestS hH 3 [] 150 0) 1) 2) 3 = 35
  unfold bestS
  rw [o0, o1, o2, o3]
  decide +kernel
 unfold admitR
 rw [if_pos he]
 exact congrArg (fun x => (x, (0 : Int))) hV
def fedO (k : Kn) (S : List (List Int)) (meal gift : Int) : Option Int :=
 if (tabWs k S (roomOf meal gift)).all (fun w => decide (0 ≤ w.most)) then (mfN (2 + k.gifts.length + k.meals.length) ((tabWs k S (roomOf meal gift)).map Wa.wn)).map (fun n : Nat => (n : Int)) else none
theorem fedO_ok {k : Kn} {S : List (List Int)} {meal gift v : Int} (h : fedO k S meal gift = some v) : fedV k S meal gift = v := by
 unfold fedO at h
 split at h
 ·rename_i h0
  obtain ⟨n, hn, rfl⟩ := Option.map_eq_some_iff.1 h
  exact mfW_ok (by omega) (fun w hw => by simpa using List.all_eq_true.1 h0 w hw) hn
 ·cases h
def srchO (p : Int → Option Bool) : Nat → Int → Int → Option Int
 | 0, lo, _ => some lo
 | f + 1, lo, hi => if lo < hi then (match p ((lo + hi + 1) / 2) with
  | some true => srchO p f ((lo + hi + 1) / 2) hi
  | some false => srchO p f lo ((lo + hi + 1) / 2 - 1)
  | none => none) else some lo
theorem srchO_ok {p : Int → Bool} {q : Int → Option Bool} (hq : ∀ t b, q t = some b → p t = b) : ∀ (f : Nat) (lo hi r : Int), srchO q f lo hi = some r → srch p f lo hi = r
 | 0, lo, hi, r, h => by
  rw [srchO] at h
  exact Option.some.inj h
 | f + 1, lo, hi, r, h => by
  rw [srchO] at h
  rw [srch]
  split at h
  ·rename_i h1
   rw [if_pos h1]
   split at h
   ·rename_i h2
    rw [hq _ _ h2, if_pos rfl]
    exact srchO_ok hq f _ _ r h
   ·rename_i h2
    rw [hq _ _ h2, if_neg (by decide)]
    exact srchO_ok hq f _ _ r h
   ·cases h
  ·rename_i h1
   rw [if_neg h1]
   exact Option.some.inj h
def pairO (k : Kn) (S : List (List Int)) (m g : Nat) (rest t : Int) : Option Bool :=
 if fitsB k (upd2 S m g t) m g then (fedO k (upd2 S m g t) m ((g : Int) - 1)).map (fun v => decide (v = rest - t)) else some false
theorem pairO_ok {k : Kn} {S : List (List Int)} {m g : Nat} {rest t : Int} {b : Bool} (h : pairO k S m g rest t = some b) : pairP k S m g rest t = b := by
 unfold pairO at h
 unfold pairP
 split at h
 ·rename_i h1
  obtain ⟨v, hv, rfl⟩ := Option.map_eq_some_iff.1 h
  rw [h1, fedO_ok hv, Bool.true_and]
 ·rename_i h1
  rw [Bool.not_eq_true] at h1
  rw [h1, Bool.false_and]
  exact Option.some.inj h
def foldO {σ α : Type} (f : σ → α → Option σ) : σ → List α → Option σ
 | s, [] => some s
 | s, x :: l => match f s x with
  | some s' => foldO f s' l
  | none => none
theorem foldO_ok {σ α : Type} {f : σ → α → σ} {q : σ → α → Option σ} (hq : ∀ s x s', q s x = some s' → f s x = s') : ∀ (l : List α) (s s' : σ), foldO q s l = some s' → l.foldl f s = s'
 | [], s, s', h => Option.some.inj h
 | x :: l, s, s', h => by
  rw [foldO] at h
  split at h
  ·rename_i s2 h1
   rw [List.foldl_cons, hq _ _ _ h1]
   exact foldO_ok hq l s2 s' h
  ·cases h
def stepO (k : Kn) (m : Nat) (st : List (List Int) × Int) (g : Nat) : Option (List (List Int) × Int) :=
 if inR (m : Int) (giAt k g).from_ (giAt k g).keeps then (srchO (pairO k st.1 m g st.2) (min st.2 (giAt k g).portions - 0).toNat 0 (min st.2 (giAt k g).portions)).map (fun v => (upd2 st.1 m g v, st.2 - v)) else some st
theorem stepO_ok {k : Kn} {m : Nat} {st st' : List (List Int) × Int} {g : Nat} (h : stepO k m st g = some st') : feedStep k m st g = st' := by
 unfold stepO at h
 unfold feedStep
 split at h
 ·rename_i h1
  obtain ⟨v, hv, rfl⟩ := Option.map_eq_some_iff.1 h
  have : pairV k st.1 m g st.2 = v := srchO_ok (fun t b => pairO_ok) _ _ _ _ hv
  rw [if_pos h1, this]
 ·rename_i h1
  rw [if_neg h1]
  exact Option.some.inj h
def feedO (k : Kn) : Option (List (List Int) × Int) :=
 match fedO k (srv0 k) (-1) 0 with
 | some r => foldO (fun st m => foldO (stepO k m) st (List.range k.gifts.length)) (srv0 k, r) (List.range k.meals.length)
 | none => none
theorem feedO_ok {k : Kn} {st : List (List Int) × Int} (h : feedO k = some st) : feedTo k k.meals.length = st := by
 unfold feedO at h
 split at h
 ·rename_i r hr
  unfold feedTo
  rw [fedO_ok hr]
  refine foldO_ok (f := feedRow k) (fun s x s' hs => ?_) _ _ _ h
  exact foldO_ok (fun a b c hc => stepO_ok hc) _ _ _ hs
 ·cases h
theorem kK_fed : fedV kK (srv0 kK) (-1) 0 = 85 := fedO_ok (by decide +kernel)
theorem kK_feed : (feedTo kK kK.meals.length).1 = [[25, 5, 0], [0, 0, 20], [0, 35, 0]] := by
 have h : (feedO kK).map Prod.fst = some [[25, 5, 0], [0, 0, 20], [0, 35, 0]] := by decide +kernel
 obtain ⟨st, hs, he⟩ := Option.map_eq_some_iff.1 h
 rw [feedO_ok hs, he]
theorem kK_R : feedR kK = .tup [tabV [[25, 5, 0], [0, 0, 20], [0, 35, 0]], vi 10, vi 0] := by
 unfold feedR servR
 rw [if_pos kK_err, if_neg (by decide), kK_feed, kK_fed]
 rfl
end Go.Proofs.YtekhddlngbppkaaDoor

/- What every statement of the doors looks at. (Vm) -/
namespace Go.Proofs.YtekhddlngbppkaaDoor.Vm
open Go Go.Proofs
set_option maxHeartbeats 1000000 in
set_option maxRecDepth 8000 in
theorem awake_v (M : Mem) : VC Tryd.prog 7 [] M (fun r M' => M' = M ∧ r = vb true) := by
 have iR : insideR hH = .tup [spsV [⟨10, 15⟩, ⟨35, 40⟩, ⟨30, 35⟩, ⟨0, 5⟩], vi 0] := by unfold insideR; rw [if_pos hH_err, hH_inside]
 refine VC_own' T_ok (f := 7) (fn := Tryd.f7) (by kernel_rfl) rfl Tryd.ntmps7 (by rfl) (by rfl) ?_
 ((repeat refine Ws ?_);refine Wr ?_)
 simp (maxSteps := 1000000) only [VL,VM,↓VG,reduceIte,reduceCtorEq,zA,zB,zC,zD,zE,zF,zG,zH,zI,zJ]
 ((repeat refine Ws ?_);refine Wr ?_)
 simp (maxSteps := 1000000) only [VL,VM,↓VG,reduceIte,reduceCtorEq,zA,zB,zC,zD,zE,zF,zG,zH,zI,zJ]
 apply call_eq (f := 4) (fn := Tryd.f4) (by kernel_rfl) (by rfl)
 ·exact house_v _
 simp (maxSteps := 1000000) only [VL,VM,↓VG,reduceIte,reduceCtorEq,zA,zB,zC,zD,zE,zF,zG,zH,zI,zJ]
 apply call_eq (f := 6) (fn := Tryd.f6) (by kernel_rfl) (by rfl)
 ·exact Inside_v hH _ (by decide) (by decide) (by decide)
 rw [iR]
 simp (maxSteps := 1000000) only [VL,VM,↓VG,reduceIte,reduceCtorEq,zA,zB,zC,zD,zE,zF,zG,zH,zI,zJ]
 ((repeat refine Ws ?_);refine Wr ?_)
 simp (maxSteps := 1000000) only [VL,VM,↓VG,reduceIte,reduceCtorEq,zA,zB,zC,zD,zE,zF,zG,zH,zI,zJ]
 apply call_eq (f := 4) (fn := Tryd.f4) (by kernel_rfl) (by rfl)
 ·exact house_v _
 simp (maxSteps := 1000000) only [VL,VM,↓VG,reduceIte,reduceCtorEq,zA,zB,zC,zD,zE,zF,zG,zH,zI,zJ]
 apply call_eq (f := 9) (fn := Tryd.f9) (by kernel_rfl) (by rfl)
 ·exact VC_nil0 (us := [houseV hH, intsV [0, 50]]) (k := 1) (vs := []) (Leave_v hH [0, 50] [] _ (by decide) (by decide) (by decide) (by decide) (by decide))
 rw [hH_leave]
 simp (maxSteps := 1000000) only [VL,VM,↓VG,reduceIte,reduceCtorEq,zA,zB,zC,zD,zE,zF,zG,zH,zI,zJ]
 ((repeat refine Ws ?_);refine Wr ?_)
 simp (maxSteps := 1000000) only [VL,VM,↓VG,reduceIte,reduceCtorEq,zA,zB,zC,zD,zE,zF,zG,zH,zI,zJ]
 apply call_eq (f := 4) (fn := Tryd.f4) (by kernel_rfl) (by rfl)
 ·exact house_v _
 simp (maxSteps := 1000000) only [VL,VM,↓VG,reduceIte,reduceCtorEq,zA,zB,zC,zD,zE,zF,zG,zH,zI,zJ]
 apply call_eq (f := 10) (fn := Tryd.f10) (by kernel_rfl) (by rfl)
 ·exact VC_nil0 (us := [houseV hH, vi 3]) (k := 1) (vs := []) (Admit_v hH 3 [] _ (by decide) (by decide) (by decide) (by decide))
 rw [hH_admit]
 simp (maxSteps := 1000000) only [VL,VM,↓VG,reduceIte,reduceCtorEq,zA,zB,zC,zD,zE,zF,zG,zH,zI,zJ]
 ((repeat refine Ws ?_);refine Wr ?_)
 simp (maxSteps := 1000000) only [VL,VM,↓VG,reduceIte,reduceCtorEq,zA,zB,zC,zD,zE,zF,zG,zH,zI,zJ]
 apply call_eq (f := 15) (fn := Tryd.f15) (by kernel_rfl) (by rfl)
 ·exact kitchen_v _
 simp (maxSteps := 1000000) only [VL,VM,↓VG,reduceIte,reduceCtorEq,zA,zB,zC,zD,zE,zF,zG,zH,zI,zJ]
 apply call_eq (f := 14) (fn := Tryd.f14) (by kernel_rfl) (by rfl)
 ·exact Feed_v kK _ (by decide) (by decide)
 rw [kK_R]
 simp (maxSteps := 1000000) only [VL,VM,↓VG,reduceIte,reduceCtorEq,zA,zB,zC,zD,zE,zF,zG,zH,zI,zJ]
 ((repeat refine Ws ?_);refine Wr ?_)
 simp (maxSteps := 1000000) only [VL,VM,↓VG,reduceIte,reduceCtorEq,zA,zB,zC,zD,zE,zF,zG,zH,zI,zJ]
 apply call_eq (f := 5) (fn := Tryd.f5) (by kernel_rfl) (by rfl)
 ·exact spanl_v 10 15 _
 simp (maxSteps := 1000000) only [VL,VM,↓VG,reduceIte,reduceCtorEq,zA,zB,zC,zD,zE,zF,zG,zH,zI,zJ]
 apply call_eq (f := 5) (fn := Tryd.f5) (by kernel_rfl) (by rfl)
 ·exact spanl_v 35 40 _
 simp (maxSteps := 1000000) only [VL,VM,↓VG,reduceIte,reduceCtorEq,zA,zB,zC,zD,zE,zF,zG,zH,zI,zJ]
 apply call_eq (f := 5) (fn := Tryd.f5) (by kernel_rfl) (by rfl)
 ·exact spanl_v 30 35 _
 simp (maxSteps := 1000000) only [VL,VM,↓VG,reduceIte,reduceCtorEq,zA,zB,zC,zD,zE,zF,zG,zH,zI,zJ]
 apply call_eq (f := 5) (fn := Tryd.f5) (by kernel_rfl) (by rfl)
 ·exact spanl_v 0 5 _
 simp (maxSteps := 1000000) only [VL,VM,↓VG,reduceIte,reduceCtorEq,zA,zB,zC,zD,zE,zF,zG,zH,zI,zJ]
 apply call_eq (f := 16) (fn := Tryd.f16) (by kernel_rfl) (by rfl)
 ·exact sameSpans_v [⟨10, 15⟩, ⟨35, 40⟩, ⟨30, 35⟩, ⟨0, 5⟩] [⟨10, 15⟩, ⟨35, 40⟩, ⟨30, 35⟩, ⟨0, 5⟩] _ (by decide)
 simp (maxSteps := 1000000) only [VL,VM,↓VG,reduceIte,reduceCtorEq,zA,zB,zC,zD,zE,zF,zG,zH,zI,zJ]
 apply call_eq (f := 17) (fn := Tryd.f17) (by kernel_rfl) (by rfl)
 ·exact sameTables_v [[25, 5, 0], [0, 0, 20], [0, 35, 0]] [[25, 5, 0], [0, 0, 20], [0, 35, 0]] _ (by decide) (by decide)
 simp (maxSteps := 1000000) only [VL,VM,↓VG,reduceIte,reduceCtorEq,zA,zB,zC,zD,zE,zF,zG,zH,zI,zJ]
 (repeat refine Ws ?_)
 refine W_ret ?_
 try simp only [thenQ, blockQ]
 refine own_ret10 rfl ?_ (by rfl)
 simp only [get_cons, frz, vtup, Nat.reduceEqDiff, if_true, if_false, reduceIte]
end Go.Proofs.YtekhddlngbppkaaDoor.Vm

/- The machine on values at work: regions whose continuation is kept out of sight. -/
namespace Go.Proofs.YtekhddlngbppkaaDoor.Vm
open Go Go.Proofs
section
variable {P : Program} {T : Tab} {cx : Cx} {e : Env} {M : Mem} {D : List Nat} {Q : PQ}
theorem QV : type_of% (And.intro (@thenQ.eq_1) (And.intro (@thenQ.eq_2) (And.intro (@blockQ.eq_1) (@blockQ.eq_2)))) := And.intro (@thenQ.eq_1) (And.intro (@thenQ.eq_2) (And.intro (@blockQ.eq_1) (@blockQ.eq_2)))
theorem W_regionE (hT : TabOk P T) {id : Nat} {ops : Array Oper} (h : ∀ Kn : Env → Mem → Prop, (∀ e' M', Kn e' M' = Q .normal e' M' D) → WOps P T cx.nt ops ops.toList e M Kn) : WCode P cx (.region id ops false) e M D Q := W_region0 hT (h _ fun _ _ => rfl)
theorem W_drawE (hT : TabOk P T) {id : Nat} {ops : Array Oper} (zs : List VObj) (hz : zerosOf T ops.toList = some zs) (hp : planOk ops (mkPlan ops) = true)
  (h : ∀ Kn : Env → Mem → Prop, (∀ e' M', Kn e' M' = Q .normal e' M' D) → WDraw P T cx.nt ops ops.toList (mkPlan ops) e M.H.length { M with H := M.H ++ zs } [] [] Kn) : WCode P cx (.region id ops true) e M D Q := W_drawP hT zs hz hp (h _ fun _ _ => rfl)
end
end Go.Proofs.YtekhddlngbppkaaDoor.Vm

/- The machine on values: sets of carts. (Vm) -/
namespace Go.Proofs.YtekhddlngbppkaaDoor.Vm
open Go Go.Proofs
section
variable (t : Nat) (a b : Nat)
end
end Go.Proofs.YtekhddlngbppkaaDoor.Vm

/- The library contracts of the shelf, laid at this program (strings.Builder, strings.Split, strconv.Itoa, strconv.Atoi). -/
namespace Go.Proofs
open Go.Shelf
def Tryd.lays169_ren : Go.Shelf.Ren := ⟨fun | 169 => 30 | n => n, fun | 70 => 69 | 9 => 9 | 0 => 0 | 72 => 72 | 37 => 70 | 127 => 99 | 3 => 3 | 5 => 5 | n => n, fun | n => n⟩
theorem Tryd.Builder_Extra_169 : Builder.Extra Tryd.prog Tryd.lays169_ren := {
 sizeBuilder := by kernel_rfl
 liesBuilder := by kernel_rfl
 t5 := Tryd.underlying5
 a5 := Tryd.isAgg5
 z5 := Tryd.sizeOf5
 v5 := Tryd.zeroValue5
 infoByte := by kernel_rfl
 cellsByte := by kernel_rfl
 sizeByte := by kernel_rfl
 neB5 := by decide }
def Tryd.laysM171_ren : Go.Shelf.Ren := ⟨fun | 171 => 29 | 243 => 48 | 246 => 57 | 283 => 59 | 284 => 60 | 285 => 61 | 286 => 62 | 129 => 64 | 317 => 63 | 318 => 65 | 319 => 66 | 320 => 67 | 337 => 68 | 338 => 69 | n => n, fun | 3 => 3 | 9 => 9 | 2 => 2 | 4 => 4 | 171 => 114 | 0 => 0 | 53 => 115 | 37 => 70 | 5 => 5 | 173 => 118 | 212 => 121 | 51 => 122 | 20 => 20 | 213 => 123 | 46 => 104 | 232 => 126 | 233 => 127 | n => n, fun | 17 => 0 | 18 => 1 | 19 => 2 | n => n⟩
theorem Tryd.laysM171 : Go.Proofs.LaysM.n171 Tryd.prog Tryd.laysM171_ren := {
 mixed := by kernel_rfl
 f129 := Tryd.func64.trans (congrArg some (by kernel_rfl))
 f171 := Tryd.func29.trans (congrArg some (by kernel_rfl))
 f243 := Tryd.func48.trans (congrArg some (by kernel_rfl))
 f246 := Tryd.func57.trans (congrArg some (by kernel_rfl))
 f283 := Tryd.func59.trans (congrArg some (by kernel_rfl))
 f284 := Tryd.func60.trans (congrArg some (by kernel_rfl))
 f285 := Tryd.func61.trans (congrArg some (by kernel_rfl))
 f286 := Tryd.func62.trans (congrArg some (by kernel_rfl))
 f317 := Tryd.func63.trans (congrArg some (by kernel_rfl))
 f318 := Tryd.func65.trans (congrArg some (by kernel_rfl))
 f319 := Tryd.func66.trans (congrArg some (by kernel_rfl))
 f320 := Tryd.func67.trans (congrArg some (by kernel_rfl))
 f337 := Tryd.func68.trans (congrArg some (by kernel_rfl))
 f338 := Tryd.func69.trans (congrArg some (by kernel_rfl))
 t0 := Tryd.underlying0
 a0 := Tryd.isAgg0
 z0 := Tryd.sizeOf0
 v0 := Tryd.zeroValue0
 t2 := Tryd.underlying2
 a2 := Tryd.isAgg2
 z2 := Tryd.sizeOf2
 v2 := Tryd.zeroValue2
 t3 := Tryd.underlying3
 a3 := Tryd.isAgg3
 z3 := Tryd.sizeOf3
 v3 := Tryd.zeroValue3
 t4 := Tryd.underlying4
 a4 := Tryd.isAgg4
 z4 := Tryd.sizeOf4
 v4 := Tryd.zeroValue4
 t5 := Tryd.underlying5
 a5 := Tryd.isAgg5
 z5 := Tryd.sizeOf5
 v5 := Tryd.zeroValue5
 t9 := Tryd.underlying9
 a9 := Tryd.isAgg9
 z9 := Tryd.sizeOf9
 v9 := Tryd.zeroValue9
 t20 := Tryd.underlying20
 a20 := Tryd.isAgg20
 z20 := Tryd.sizeOf20
 v20 := Tryd.zeroValue20
 t37 := Tryd.underlying70
 a37 := Tryd.isAgg70
 z37 := Tryd.sizeOf70
 v37 := Tryd.zeroValue70
 t46 := Tryd.underlying104
 a46 := Tryd.isAgg104
 z46 := Tryd.sizeOf104
 v46 := Tryd.zeroValue104
 t51 := Tryd.underlying122
 a51 := Tryd.isAgg122
 z51 := Tryd.sizeOf122
 v51 := Tryd.zeroValue122
 t53 := Tryd.underlying115
 a53 := Tryd.isAgg115
 z53 := Tryd.sizeOf115
 v53 := Tryd.zeroValue115
 t171 := Tryd.underlying114
 a171 := Tryd.isAgg114
 z171 := Tryd.sizeOf114
 v171 := Tryd.zeroValue114
 t173 := Tryd.underlying118
 a173 := Tryd.isAgg118
 z173 := Tryd.sizeOf118
 v173 := Tryd.zeroValue118
 t212 := Tryd.underlying121
 a212 := Tryd.isAgg121
 z212 := Tryd.sizeOf121
 v212 := Tryd.zeroValue121
 t213 := Tryd.underlying123
 a213 := Tryd.isAgg123
 z213 := Tryd.sizeOf123
 t232 := Tryd.underlying126
 a232 := Tryd.isAgg126
 z232 := Tryd.sizeOf126
 v232 := Tryd.zeroValue126
 t233 := Tryd.underlying127
 a233 := Tryd.isAgg127
 z233 := Tryd.sizeOf127
 v233 := Tryd.zeroValue127
 g17 := by kernel_rfl
 g18 := by kernel_rfl
 g19 := by kernel_rfl
 i0 := by kernel_rfl
 i2 := by kernel_rfl
 i3 := by kernel_rfl
 i4 := by kernel_rfl
 i5 := by kernel_rfl
 i9 := by kernel_rfl
 i20 := by kernel_rfl
 i37 := by kernel_rfl
 i46 := by kernel_rfl
 i51 := by kernel_rfl
 i53 := by kernel_rfl
 i171 := by kernel_rfl
 i173 := by kernel_rfl
 i212 := by kernel_rfl
 i232 := by kernel_rfl
 i233 := by kernel_rfl
 m17 := by kernel_rfl
 m18 := by kernel_rfl
 m19 := by kernel_rfl }
def Tryd.lays240_ren : Go.Shelf.Ren := ⟨fun | 240 => 47 | 276 => 56 | n => n, fun | 0 => 0 | 37 => 70 | 4 => 4 | 9 => 9 | 20 => 20 | 70 => 69 | 72 => 72 | 164 => 110 | n => n, fun | n => n⟩
theorem Tryd.lays240 : Go.Proofs.Lays.n240 Tryd.prog Tryd.lays240_ren := {
 mixed := by kernel_rfl
 f240 := Tryd.func47.trans (congrArg some (by kernel_rfl))
 f276 := Tryd.func56.trans (congrArg some (by kernel_rfl))
 t0 := Tryd.underlying0
 a0 := Tryd.isAgg0
 z0 := Tryd.sizeOf0
 v0 := Tryd.zeroValue0
 t4 := Tryd.underlying4
 a4 := Tryd.isAgg4
 z4 := Tryd.sizeOf4
 v4 := Tryd.zeroValue4
 t9 := Tryd.underlying9
 a9 := Tryd.isAgg9
 z9 := Tryd.sizeOf9
 v9 := Tryd.zeroValue9
 t20 := Tryd.underlying20
 a20 := Tryd.isAgg20
 z20 := Tryd.sizeOf20
 v20 := Tryd.zeroValue20
 t70 := Tryd.underlying69
 a70 := Tryd.isAgg69
 z70 := Tryd.sizeOf69
 v70 := Tryd.zeroValue69
 t72 := Tryd.underlying72
 a72 := Tryd.isAgg72
 z72 := Tryd.sizeOf72
 v72 := Tryd.zeroValue72
 t164 := Tryd.underlying110
 a164 := Tryd.isAgg110
 z164 := Tryd.sizeOf110
 v164 := Tryd.zeroValue110
}
theorem Tryd.Builder_X72_240 : Builder.X72 Tryd.prog Tryd.lays240_ren := {
 sizeBuilder := by kernel_rfl
 liesBuilder := by kernel_rfl
}
end Go.Proofs

/- Plain: texts as lists of bytes; the parts of a text, numbers as texts. Nothing here names the program. -/
namespace Go.Proofs.YtekhddlngbppkaaDoor
open Go
abbrev By := List UInt8
def tx (l : By) : ByteArray := ⟨l.toArray⟩
theorem tx_size (l : By) : (tx l).size = l.length := by simp [tx, ByteArray.size]
theorem tx_list (l : By) : (tx l).data.toList = l := by simp [tx]
theorem tx_append (a b : By) : tx a ++ tx b = tx (a ++ b) := by
 apply ByteArray.ext
 simp [tx, ByteArray.data_append]
end Go.Proofs.YtekhddlngbppkaaDoor
