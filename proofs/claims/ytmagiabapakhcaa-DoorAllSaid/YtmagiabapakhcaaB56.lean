/- A part of the proofs about the chapter of the doors; it states no condition of its own. -/
import Derived.Test.YtmagiabapakhcaaB29
import Derived.Test.YtmagiabapakhcaaB34
import Derived.Test.YtmagiabapakhcaaB38
import Derived.Test.YtmagiabapakhcaaB50
set_option linter.unusedVariables false
set_option linter.unusedSimpArgs false
open Int renaming reduceLE → zA, reduceLT → zB, reduceToNat → zC, reduceNeg → zD
open Nat renaming reduceLT → zE, reduceEqDiff → zF, reduceAdd → zG, reduceSub → zH, reduceMul → zI, reduceLeDiff → zJ
/- Memory of which one object is written. (Vm) -/
namespace Go.Proofs.Ytmagiabapakhcaa.Vm
open Go Go.Proofs
def SH (H0 : List VObj) (s : Nat) (cs : List VV) (L : List VObj) : List VObj := (H0 ++ L).set s (.obj cs)
section
variable {H0 : List VObj} {s : Nat} (hd : s < H0.length) {cs : List VV} {L : List VObj}
theorem SH_len : (SH H0 s cs L).length = H0.length + L.length := by simp [SH]
include hd
theorem SH_eq : SH H0 s cs L = SH H0 s cs [] ++ L := by
 unfold SH
 rw [List.set_append_left _ _ hd, List.append_nil]
omit hd in
theorem SH_len0 : (SH H0 s cs []).length = H0.length := by rw [SH_len]; simp
theorem SH_get (k : Nat) : (SH H0 s cs L)[H0.length + k]? = L[k]? := by
 rw [SH_eq hd]
 have := hget (SH H0 s cs []) L k
 rwa [SH_len0] at this
theorem SH_get0 : (SH H0 s cs L)[H0.length]? = L[0]? := SH_get hd 0
theorem SH_own : (SH H0 s cs L)[s]? = some (.obj cs) := by
 unfold SH
 rw [List.getElem?_set_self (by rw [List.length_append]; omega)]
theorem SH_app (X : List VObj) : SH H0 s cs L ++ X = SH H0 s cs (L ++ X) := by
 rw [SH_eq hd, SH_eq hd (L := L ++ X), List.append_assoc]
theorem SH_set (k : Nat) (o : VObj) : (SH H0 s cs L).set (H0.length + k) o = SH H0 s cs (L.set k o) := by
 rw [SH_eq hd, SH_eq hd (L := L.set k o)]
 have := hset (SH H0 s cs []) L k o
 rwa [SH_len0] at this
omit hd in
theorem SH_put (cs' : List VV) : (SH H0 s cs L).set s (.obj cs') = SH H0 s cs' L := by
 unfold SH
 rw [List.set_set]
omit hd in
theorem SH_base : SH H0 s cs L = SH (H0 ++ L) s cs [] := by
 unfold SH
 rw [List.append_nil]
theorem own_retS {f : Nat} {fn : Func} {lg : List (Nat × Nat)} {cs' : List VV} {e : Env} {t : Nat} {X : VV} {Q : VV → Mem → Prop} (h1 : fn.results.toList = [.tmp t]) (hr : get e t = X) (h2 : ∀ H, frz H0.length H X = X) (h3 : refs X = []) (hq : Q X ⟨SH H0 s cs' [], lg⟩) : ownQ T f fn ⟨SH H0 s cs [], lg⟩ Q .ret e ⟨SH H0 s cs' L, lg⟩ [] :=
 ⟨.inr rfl, rfl, ⟨[], by simp, by simp⟩, SH H0 s cs' [], L, SH_eq hd, by rw [SH_len, SH_len], [get e t], by rw [h1]; rfl, X, by rw [SH_len0, hr]; exact h2 _, by simp [h3], hq⟩
end
def cellsS : List Sp → List VV
 | [] => []
 | s :: S => vi s.lo :: vi s.hi :: cellsS S
theorem cellsS_len : ∀ S : List Sp, (cellsS S).length = S.length * 2
 | [] => rfl
 | s :: S => by
  rw [cellsS, List.length_cons, List.length_cons, cellsS_len S, List.length_cons]
  omega
theorem cellsS_get : ∀ {S : List Sp} {i : Nat} {x : Sp}, S[i]? = some x → (cellsS S)[i * 2]? = some (vi x.lo) ∧ (cellsS S)[i * 2 + 1]? = some (vi x.hi)
 | [], i, x, h => by simp at h
 | s :: S, 0, x, h => by
  simp only [List.getElem?_cons_zero, Option.some.injEq] at h
  subst h
  exact ⟨rfl, rfl⟩
 | s :: S, i + 1, x, h => by
  rw [List.getElem?_cons_succ] at h
  have := cellsS_get h
  rw [show (i + 1) * 2 = i * 2 + 1 + 1 by omega]
  exact this
theorem cellsS_put : ∀ (S : List Sp) (i : Nat) (x : Sp), i < S.length → (cellsS S).take (i * 2) ++ vi x.lo :: vi x.hi :: (cellsS S).drop (i * 2 + 2) = cellsS (S.set i x)
 | [], i, x, h => by simp at h
 | s :: S, 0, x, h => by simp [cellsS]
 | s :: S, i + 1, x, h => by
  rw [show (i + 1) * 2 = i * 2 + 1 + 1 by omega, show i * 2 + 1 + 1 + 2 = i * 2 + 2 + 1 + 1 by omega]
  simp only [cellsS, List.take_succ_cons, List.drop_succ_cons, List.cons_append, List.set_cons_succ]
  rw [cellsS_put S i x (by simpa using h)]
/-! ### all ways in which it may have been -/
def lastI (l : List Int) : Int := l.getD (l.length - 1) 0
def dlsI (s : Sp) : List Int := (List.range (s.hi + 1 - s.lo).toNat).map fun j => s.lo + (j : Nat)
def seqs (C : Nat → Sp) : Nat → List Int → List (List Int)
 | 0, pre => [pre]
 | f + 1, pre => (dlsI (C (pre.length - 1))).flatMap fun d => if 0 ≤ lastI pre + d then seqs C f (pre ++ [lastI pre + d]) else []
def mergeS (n : Nat) (s : Sp) (v : Int) : Sp := if n = 0 then ⟨v, v⟩ else ⟨min s.lo v, max s.hi v⟩
def visit (st : Nat × List Sp) (x : List Int) : Nat × List Sp := (st.1 + 1, List.zipWith (mergeS st.1) st.2 x)
end Go.Proofs.Ytmagiabapakhcaa.Vm

/- The law's tallies of all ways in which it may have been, on values. (Vm) -/
namespace Go.Proofs.Ytmagiabapakhcaa
open Vm
def visA (n : Nat) (S : List Sp) (x : List Int) (i : Nat) : List Sp := List.zipWith (mergeS n) (S.take i) (x.take i) ++ S.drop i
theorem visA_len {n : Nat} {S : List Sp} {x : List Int} (h : x.length = S.length) (i : Nat) : (visA n S x i).length = S.length := by
 unfold visA
 simp only [List.length_append, List.length_zipWith, List.length_take, List.length_drop]
 omega
theorem visA_get {n : Nat} {S : List Sp} {x : List Int} (h : x.length = S.length) {i : Nat} {s : Sp} (hs : S[i]? = some s) : (visA n S x i)[i]? = some s := by
 have hi := (List.getElem?_eq_some_iff.1 hs).1
 unfold visA
 rw [List.getElem?_append_right (by simp; omega)]
 simp only [List.length_zipWith, List.length_take]
 rw [List.getElem?_drop, show i + (i - min (min i S.length) (min i x.length)) = i by omega, hs]
theorem visA_set {n : Nat} {S : List Sp} {x : List Int} (h : x.length = S.length) {i : Nat} {s : Sp} {v : Int} (hs : S[i]? = some s) (hx : x[i]? = some v) : (visA n S x i).set i (mergeS n s v) = visA n S x (i + 1) := by
 have hi := (List.getElem?_eq_some_iff.1 hs).1
 unfold visA
 rw [List.set_append_right _ _ (by simp; omega)]
 simp only [List.length_zipWith, List.length_take]
 have hd : S.drop i = s :: S.drop (i + 1) := by
  rw [List.drop_eq_getElem_cons hi]
  rw [List.getElem?_eq_getElem hi] at hs
  rw [Option.some.inj hs]
 rw [show i - min (min i S.length) (min i x.length) = 0 by omega, hd, List.set_cons_zero, List.take_add_one, List.take_add_one, hs, hx]
 simp only [Option.toList_some]
 rw [List.zipWith_append (by simp; omega)]
 simp
theorem visA_all {n : Nat} {S : List Sp} {x : List Int} (h : x.length = S.length) : visA n S x S.length = List.zipWith (mergeS n) S x := by
 unfold visA
 rw [List.take_length, ← h, List.take_length, h, List.drop_length, List.append_nil]
end Go.Proofs.Ytmagiabapakhcaa
namespace Go.Proofs.Ytmagiabapakhcaa.Vm
open Go Go.Proofs
set_option maxHeartbeats 4000000 in
set_option maxRecDepth 8000 in
theorem tallies_leaf (h : Ho) {H0 : List VObj} {sid : Nat} (hsd : sid < H0.length) (x : List Int) (n : Nat) (S : List Sp) (lg : List (Nat × Nat)) (hT : (x.length : Int) = h.ticks + 1) (hx30 : x.length ≤ 30) (hSl : x.length = S.length) (hn : n < 1000000000000) :
  VC Try.prog 47 [houseV h, intsV x, .bf sid 0 S.length 2, vi n] ⟨SH H0 sid (cellsS S) [], lg⟩ (fun r M' => M' = ⟨SH H0 sid (cellsS (visit (n, S) x).2) [], lg⟩ ∧ r = vi ((visit (n, S) x).1 : Nat)) := by
 have dg : ∀ cs L k, (SH H0 sid cs L)[H0.length + k]? = L[k]? := fun cs L k => SH_get hsd k
 have dg0 : ∀ cs L, (SH H0 sid cs L)[H0.length]? = L[0]? := fun cs L => SH_get0 hsd
 have dl : ∀ cs L, (SH H0 sid cs L).length = H0.length + L.length := fun cs L => SH_len
 have da : ∀ cs L X, SH H0 sid cs L ++ X = SH H0 sid cs (L ++ X) := fun cs L X => SH_app hsd X
 have so : ∀ cs L, (SH H0 sid cs L)[sid]? = some (.obj cs) := fun cs L => SH_own hsd
 have sp : ∀ cs L cs', (SH H0 sid cs L).set sid (.obj cs') = SH H0 sid cs' L := fun cs L cs' => SH_put cs'
 have k0 : -9223372036854775808 ≤ (x.length : Int) - 1 ∧ (x.length : Int) - 1 < 9223372036854775808 := by omega
 have e1 : ((x.length : Int) - 1 = h.ticks) = True := eq_true (by omega)
 refine VC_own' T_ok (f := 47) (fn := Try.f47) (by kernel_rfl) rfl Try.ntmps47 (by rfl) (by rfl) ?_
 ((repeat refine Ws ?_);refine Wr ?_)
 simp (maxSteps := 1000000) only [VL,VM,↓VG,reduceIte,reduceCtorEq,zA,zB,zC,zD,zE,zF,zG,zH,zI,zJ, dl, da]
 ((repeat refine Ws ?_);refine Wr ?_)
 simp (maxSteps := 1000000) only [VL,VM,↓VG,reduceIte,reduceCtorEq,zA,zB,zC,zD,zE,zF,zG,zH,zI,zJ, k0]
 ((repeat refine Ws ?_);refine Wr ?_)
 simp (maxSteps := 1000000) only [VL,VM,↓VG,reduceIte,reduceCtorEq,zA,zB,zC,zD,zE,zF,zG,zH,zI,zJ, dg0, dg, e1]
 ((repeat refine Ws ?_);refine Wt (by first|rfl|simp only [EV,zF,reduceIte]) ?_)
 ((repeat refine Ws ?_);refine Wr ?_)
 simp (maxSteps := 1000000) only [VL,VM,↓VG,reduceIte,reduceCtorEq,zA,zB,zC,zD,zE,zF,zG,zH,zI,zJ]
 ((repeat refine Ws ?_);refine W_block ?_; (repeat refine Ws ?_)); refine W_loopS (fun i : Nat => [(1, intsV x), (2, .bf sid 0 S.length 2), (3, vi n), (10, vi i)]) (fun i => ⟨SH H0 sid (cellsS (visA n S x i)) [.obj (houseC h)], lg⟩) (fun i => x.length - i) (fun i => i ≤ x.length) 0 (Nat.zero_le _) ⟨rfl, rfl, rfl, rfl, trivial⟩ rfl ?_
 intro i hi
 have k1 : -9223372036854775808 ≤ (i : Int) + 1 ∧ (i : Int) + 1 < 9223372036854775808 := by omega
 ((repeat refine Ws ?_);refine Wr ?_)
 rcases Nat.lt_or_ge i x.length with hlt | hge
 rotate_left
 ·have k2 : ((i : Int) < (x.length : Int)) = False := eq_false (by omega)
  obtain rfl : i = x.length := by omega
  have k3 : -9223372036854775808 ≤ (n : Int) + 1 ∧ (n : Int) + 1 < 9223372036854775808 := by omega
  simp (maxSteps := 1000000) only [VL,VM,↓VG,reduceIte,reduceCtorEq,zA,zB,zC,zD,zE,zF,zG,zH,zI,zJ, k2]
  ((repeat refine Ws ?_);refine Wf (by first|rfl|simp only [EV,zF,reduceIte]) ?_)
  ((repeat refine Ws ?_);refine W_exit ?_)
  simp (maxSteps := 1000000) only [VL,VM,↓VG,reduceIte,reduceCtorEq,zA,zB,zC,zD,zE,zF,zG,zH,zI,zJ]
  ((repeat refine Ws ?_);refine Wr ?_)
  simp (maxSteps := 1000000) only [VL,VM,↓VG,reduceIte,reduceCtorEq,zA,zB,zC,zD,zE,zF,zG,zH,zI,zJ, k3]
  have hva : visA n S x x.length = (visit (n, S) x).2 := by rw [hSl]; exact visA_all hSl
  rw [hva]
  (repeat refine Ws ?_)
  refine W_ret ?_
  try simp only [thenQ, blockQ]
  refine own_retS hsd rfl rfl (fun H => rfl) rfl ⟨rfl, rfl⟩
 have k2 : ((i : Int) < (x.length : Int)) = True := eq_true (by omega)
 have hx : x[i]? = some x[i] := List.getElem?_eq_getElem hlt
 have k6 : (i * 2 + 2 ≤ S.length * 2) = True := eq_true (by omega)
 have k5 : (i < S.length) = True := eq_true (by omega)
 have hS : S[i]? = some (S[i]'(by omega)) := List.getElem?_eq_getElem (by omega)
 generalize x[i] = v at hx
 generalize S[i]'(by omega) = s at hS
 have hx' := map_at (f := intP) hx
 have hg := visA_get (n := n) hSl hS
 have hst := visA_set (n := n) hSl hS hx
 have hvl := visA_len (n := n) hSl i
 obtain ⟨c1, c2⟩ := cellsS_get hg
 generalize visA n S x i = A at hg hst hvl c1 c2 ⊢
 have hcl : (cellsS A).length = S.length * 2 := by rw [cellsS_len, hvl]
 have fin : ∀ (A : List Sp) (s : Sp), (A.set i ⟨min s.lo v, max s.hi v⟩) = visA n S x (i + 1) → A.length = S.length → (cellsS A).take (i * 2) ++ vi (min s.lo v) :: vi (max s.hi v) :: (cellsS A).drop (i * 2 + 2) = cellsS (visA n S x (i + 1)) := fun A s h1 h2 => by
  rw [← h1]
  exact cellsS_put A i ⟨min s.lo v, max s.hi v⟩ (by omega)
 simp (maxSteps := 1000000) only [VL,VM,↓VG,reduceIte,reduceCtorEq,zA,zB,zC,zD,zE,zF,zG,zH,zI,zJ, k2]
 ((repeat refine Ws ?_);refine Wt (by first|rfl|simp only [EV,zF,reduceIte]) ?_)
 ((repeat refine Ws ?_);refine W_skip ?_)
 simp (maxSteps := 1000000) only [VL,VM,↓VG,reduceIte,reduceCtorEq,zA,zB,zC,zD,zE,zF,zG,zH,zI,zJ]
 ((repeat refine Ws ?_);refine W_block ?_)
 ((repeat refine Ws ?_);refine Wr ?_)
 by_cases hn0 : n = 0
 ·have k3 : ((n : Int) = 0) = True := eq_true (by omega)
  have hm : mergeS n s v = ⟨v, v⟩ := by unfold mergeS; rw [if_pos hn0]
  rw [hm] at hst
  have hput := cellsS_put A i ⟨v, v⟩ (by omega)
  have hg2 : (A.set i ⟨v, v⟩)[i]? = some (⟨v, v⟩ : Sp) := List.getElem?_set_self (by omega)
  obtain ⟨d1, d2⟩ := cellsS_get hg2
  have hput2 := fin (A.set i ⟨v, v⟩) ⟨v, v⟩ (by rw [List.set_set, Int.min_self, Int.max_self]; exact hst) (by rw [List.length_set]; omega)
  have hcl2 : (cellsS (A.set i ⟨v, v⟩)).length = S.length * 2 := by rw [cellsS_len, List.length_set, hvl]
  simp only at hput hput2 d1 d2
  simp (maxSteps := 1000000) only [VL,VM,↓VG,reduceIte,reduceCtorEq,zA,zB,zC,zD,zE,zF,zG,zH,zI,zJ, k3]
  ((repeat refine Ws ?_);refine Wt (by first|rfl|simp only [EV,zF,reduceIte]) ?_)
  (repeat refine Ws ?_)
  refine W_drawP T_ok [] (by kernel_rfl) (by kernel_rfl) ?_
  generalize hi : mkPlan _ = infs
  cbv at hi
  subst hi
  simp (maxSteps := 1000000) only [VL,VM,↓VG,reduceIte,reduceCtorEq,zA,zB,zC,zD,zE,zF,zG,zH,zI,zJ, hx', k5]
  apply call_d (f := 46) (fn := Try.f46) (by kernel_rfl) (by rfl)
  ·exact spanl_v v v _
  simp (maxSteps := 1000000) only [VL,VM,↓VG,reduceIte,reduceCtorEq,zA,zB,zC,zD,zE,zF,zG,zH,zI,zJ, hx', so, sp, hcl, k5, k6]
  rw [hput]
  generalize A.set i ⟨v, v⟩ = A1 at d1 d2 hput2 hcl2 ⊢
  (repeat refine Ws ?_)
  refine W_drawP T_ok [] (by kernel_rfl) (by kernel_rfl) ?_
  generalize hi : mkPlan _ = infs
  cbv at hi
  subst hi
  simp (maxSteps := 1000000) only [VL,VM,↓VG,reduceIte,reduceCtorEq,zA,zB,zC,zD,zE,zF,zG,zH,zI,zJ, hx', so, d1, d2, k5]
  apply call_d (f := 46) (fn := Try.f46) (by kernel_rfl) (by rfl)
  ·exact spanl_v (min v v) (max v v) _
  simp (maxSteps := 1000000) only [VL,VM,↓VG,reduceIte,reduceCtorEq,zA,zB,zC,zD,zE,zF,zG,zH,zI,zJ, hx', so, sp, hcl2, k5, k6]
  rw [hput2]
  ((repeat refine Ws ?_);refine Wr ?_)
  simp (maxSteps := 1000000) only [VL,VM,↓VG,reduceIte,reduceCtorEq,zA,zB,zC,zD,zE,zF,zG,zH,zI,zJ, k1]
  exact LoopK.mk (i + 1) (by omega) (by omega) ⟨rfl, rfl, rfl, rfl, trivial⟩ rfl
 have k3 : ((n : Int) = 0) = False := eq_false (by omega)
 have hm : mergeS n s v = ⟨min s.lo v, max s.hi v⟩ := by unfold mergeS; rw [if_neg hn0]
 rw [hm] at hst
 have hput := fin A s hst hvl
 simp (maxSteps := 1000000) only [VL,VM,↓VG,reduceIte,reduceCtorEq,zA,zB,zC,zD,zE,zF,zG,zH,zI,zJ, k3]
 ((repeat refine Ws ?_);refine Wf (by first|rfl|simp only [EV,zF,reduceIte]) ?_)
 ((repeat refine Ws ?_);refine W_skip ?_)
 simp (maxSteps := 1000000) only [VL,VM,↓VG,reduceIte,reduceCtorEq,zA,zB,zC,zD,zE,zF,zG,zH,zI,zJ]
 (repeat refine Ws ?_)
 refine W_drawP T_ok [] (by kernel_rfl) (by kernel_rfl) ?_
 generalize hi : mkPlan _ = infs
 cbv at hi
 subst hi
 simp (maxSteps := 1000000) only [VL,VM,↓VG,reduceIte,reduceCtorEq,zA,zB,zC,zD,zE,zF,zG,zH,zI,zJ, hx', so, c1, c2, k5]
 apply call_d (f := 46) (fn := Try.f46) (by kernel_rfl) (by rfl)
 ·exact spanl_v (min s.lo v) (max s.hi v) _
 simp (maxSteps := 1000000) only [VL,VM,↓VG,reduceIte,reduceCtorEq,zA,zB,zC,zD,zE,zF,zG,zH,zI,zJ, hx', so, sp, hcl, k5, k6]
 rw [hput]
 ((repeat refine Ws ?_);refine Wr ?_)
 simp (maxSteps := 1000000) only [VL,VM,↓VG,reduceIte,reduceCtorEq,zA,zB,zC,zD,zE,zF,zG,zH,zI,zJ, k1]
 exact LoopK.mk (i + 1) (by omega) (by omega) ⟨rfl, rfl, rfl, rfl, trivial⟩ rfl
end Go.Proofs.Ytmagiabapakhcaa.Vm

/- The law's tallies, all of them, on values. (Vm) -/
namespace Go.Proofs.Ytmagiabapakhcaa
open Vm
theorem visit_fold1 : ∀ (L : List (List Int)) (n : Nat) (S : List Sp), (L.foldl visit (n, S)).1 = n + L.length
 | [], n, S => rfl
 | x :: L, n, S => by
  rw [List.foldl_cons, List.length_cons]
  have := visit_fold1 L (visit (n, S) x).1 (visit (n, S) x).2
  rw [show ((visit (n, S) x).1, (visit (n, S) x).2) = visit (n, S) x from rfl] at this
  rw [this]
  show n + 1 + L.length = _
  omega
theorem visit_fold2 {k : Nat} : ∀ (L : List (List Int)) (n : Nat) (S : List Sp), S.length = k → (∀ x ∈ L, x.length = k) → (L.foldl visit (n, S)).2.length = k
 | [], n, S, h, _ => h
 | x :: L, n, S, h, hL => by
  rw [List.foldl_cons]
  refine visit_fold2 L (visit (n, S) x).1 (visit (n, S) x).2 ?_ fun y hy => hL y (List.mem_cons_of_mem _ hy)
  show (List.zipWith _ S x).length = k
  rw [List.length_zipWith, h, hL x (List.mem_cons_self ..), Nat.min_self]
theorem seqs_len {C : Nat → Sp} : ∀ (f : Nat) (pre : List Int), ∀ x ∈ seqs C f pre, x.length = pre.length + f
 | 0, pre, x, hx => by
  rw [seqs, List.mem_singleton] at hx
  rw [hx]; rfl
 | f + 1, pre, x, hx => by
  rw [seqs, List.mem_flatMap] at hx
  obtain ⟨d, _, hx⟩ := hx
  split at hx
  ·have := seqs_len f _ x hx
   rw [this]; simp; omega
  ·cases hx
def partS (C : Nat → Sp) (f : Nat) (pre : List Int) (lo : Int) (j : Nat) : List (List Int) := ((List.range j).map fun j => lo + (j : Nat)).flatMap fun d => if 0 ≤ lastI pre + d then seqs C f (pre ++ [lastI pre + d]) else []
theorem partS_succ (C : Nat → Sp) (f : Nat) (pre : List Int) (lo : Int) (j : Nat) : partS C f pre lo (j + 1) = partS C f pre lo j ++ (if 0 ≤ lastI pre + (lo + (j : Nat)) then seqs C f (pre ++ [lastI pre + (lo + (j : Nat))]) else []) := by
 unfold partS
 rw [List.range_succ, List.map_append, List.flatMap_append]
 simp
theorem partS_mono (C : Nat → Sp) (f : Nat) (pre : List Int) (lo : Int) {j k : Nat} (h : j ≤ k) : (partS C f pre lo j).length ≤ (partS C f pre lo k).length := by
 induction k with
 | zero => rw [Nat.le_zero.1 h]; exact Nat.le_refl _
 | succ k ih =>
  rcases Nat.lt_or_ge j (k + 1) with q | q
  ·have := ih (by omega)
   rw [partS_succ, List.length_append]
   omega
  ·rw [show j = k + 1 by omega]; exact Nat.le_refl _
theorem partS_all (C : Nat → Sp) (f : Nat) (pre : List Int) : partS C f pre (C (pre.length - 1)).lo ((C (pre.length - 1)).hi + 1 - (C (pre.length - 1)).lo).toNat = seqs C (f + 1) pre := rfl
theorem partS_len {C : Nat → Sp} {f : Nat} {pre : List Int} {lo : Int} {j : Nat} : ∀ x ∈ partS C f pre lo j, x.length = pre.length + (f + 1) := fun x hx => by
 unfold partS at hx
 rw [List.mem_flatMap] at hx
 obtain ⟨d, _, hx⟩ := hx
 split at hx
 ·have := seqs_len f _ x hx
  rw [this]; simp; omega
 ·cases hx
theorem lastI_snoc (pre : List Int) (v : Int) : lastI (pre ++ [v]) = v := by
 unfold lastI
 rw [List.getD_eq_getElem?_getD, List.length_append, List.getElem?_append_right (by simp)]
 simp
end Go.Proofs.Ytmagiabapakhcaa
namespace Go.Proofs.Ytmagiabapakhcaa.Vm
open Go Go.Proofs
structure TaSt where
 j : Nat
 junk : List VObj
set_option maxHeartbeats 4000000 in
set_option maxRecDepth 8000 in
theorem tallies_v (h : Ho) (V : HV h) (C : Nat → Sp) (hC : ∀ t : Nat, chg h.counts (t : Int) = C t) (hCb : Cb C) : ∀ (f : Nat) {H0 : List VObj} {sid : Nat} (_ : sid < H0.length) (pre : List Int) (n : Nat) (S : List Sp) (lg : List (Nat × Nat)) (_ : (pre.length : Int) + f = h.ticks + 1) (_ : 0 < pre.length) (_ : S.length = pre.length + f) (_ : 0 ≤ lastI pre ∧ lastI pre ≤ 1000000000000 * pre.length) (_ : n + (seqs C f pre).length < 1000000000000),
  VC Try.prog 47 [houseV h, intsV pre, .bf sid 0 S.length 2, vi n] ⟨SH H0 sid (cellsS S) [], lg⟩ (fun r M' => M' = ⟨SH H0 sid (cellsS ((seqs C f pre).foldl visit (n, S)).2) [], lg⟩ ∧ r = vi (((seqs C f pre).foldl visit (n, S)).1 : Nat)) := by
 intro f
 have vt1 := V.t1
 induction f with
 | zero =>
  intro H0 sid hsd pre n S lg hT hp0 hS hb hn
  have hn' : n < 1000000000000 := by omega
  exact tallies_leaf h hsd pre n S lg (by omega) (by omega) (by omega) hn'
 | succ f ih =>
  intro H0 sid hsd pre n S lg hT hp0 hS hb hn
  have hpl : pre.length ≤ 13 := by omega
  have hc := hC (pre.length - 1)
  have hcb := hCb (pre.length - 1)
  have hall := partS_all C f pre
  obtain ⟨w, hw⟩ : ∃ w, w = ((C (pre.length - 1)).hi + 1 - (C (pre.length - 1)).lo).toNat := ⟨_, rfl⟩
  rw [← hw] at hall
  rw [← hall] at hn ⊢
  generalize C (pre.length - 1) = c at hc hcb hw hall hn ⊢
  have dg : ∀ cs L k, (SH H0 sid cs L)[H0.length + k]? = L[k]? := fun cs L k => SH_get hsd k
  have dg0 : ∀ cs L, (SH H0 sid cs L)[H0.length]? = L[0]? := fun cs L => SH_get0 hsd
  have ds : ∀ cs L k o, (SH H0 sid cs L).set (H0.length + k) o = SH H0 sid cs (L.set k o) := fun cs L k o => SH_set hsd k o
  have dl : ∀ cs L, (SH H0 sid cs L).length = H0.length + L.length := fun cs L => SH_len
  have da : ∀ cs L X, SH H0 sid cs L ++ X = SH H0 sid cs (L ++ X) := fun cs L X => SH_app hsd X
  have k0 : -9223372036854775808 ≤ (pre.length : Int) - 1 ∧ (pre.length : Int) - 1 < 9223372036854775808 := by omega
  have e1 : ((pre.length : Int) - 1 = h.ticks) = False := eq_false (by omega)
  have hcg := change_r h V ((pre.length : Int) - 1)
  rw [show ((pre.length : Int) - 1) = ((pre.length - 1 : Nat) : Int) by omega, hc] at hcg
  rw [show ((pre.length - 1 : Nat) : Int) = ((pre.length : Int) - 1) by omega] at hcg
  have hlx : pre[pre.length - 1]? = some (lastI pre) := by
   unfold lastI
   rw [List.getD_eq_getElem?_getD, List.getElem?_eq_getElem (by omega)]; rfl
  have hlx' := map_at (f := intP) hlx
  refine VC_own' T_ok (f := 47) (fn := Try.f47) (by kernel_rfl) rfl Try.ntmps47 (by rfl) (by rfl) ?_
  ((repeat refine Ws ?_);refine Wr ?_)
  simp (maxSteps := 1000000) only [VL,VM,↓VG,reduceIte,reduceCtorEq,zA,zB,zC,zD,zE,zF,zG,zH,zI,zJ, dl, da]
  ((repeat refine Ws ?_);refine Wr ?_)
  simp (maxSteps := 1000000) only [VL,VM,↓VG,reduceIte,reduceCtorEq,zA,zB,zC,zD,zE,zF,zG,zH,zI,zJ, k0]
  ((repeat refine Ws ?_);refine Wr ?_)
  simp (maxSteps := 1000000) only [VL,VM,↓VG,reduceIte,reduceCtorEq,zA,zB,zC,zD,zE,zF,zG,zH,zI,zJ, dg0, dg, e1]
  ((repeat refine Ws ?_);refine Wf (by first|rfl|simp only [EV,zF,reduceIte]) ?_)
  ((repeat refine Ws ?_);refine W_skip ?_)
  simp (maxSteps := 1000000) only [VL,VM,↓VG,reduceIte,reduceCtorEq,zA,zB,zC,zD,zE,zF,zG,zH,zI,zJ]
  ((repeat refine Ws ?_);refine Wr ?_)
  simp (maxSteps := 1000000) only [VL,VM,↓VG,reduceIte,reduceCtorEq,zA,zB,zC,zD,zE,zF,zG,zH,zI,zJ, dg0, dg]
  apply call_eq (f := 88) (fn := Try.f88) (by kernel_rfl) (by rfl)
  ·exact hcg _
  simp (maxSteps := 1000000) only [VL,VM,↓VG,reduceIte,reduceCtorEq,zA,zB,zC,zD,zE,zF,zG,zH,zI,zJ, dg0, dg, ds, dl, da]
  ((repeat refine Ws ?_);refine Wr ?_)
  simp (maxSteps := 1000000) only [VL,VM,↓VG,reduceIte,reduceCtorEq,zA,zB,zC,zD,zE,zF,zG,zH,zI,zJ, dg0, dg, dl]
  ((repeat refine Ws ?_);refine W_block ?_; (repeat refine Ws ?_)); refine W_loopS (fun s : TaSt => [(1, intsV pre), (2, .bf sid 0 S.length 2), (3, vi (((partS C f pre c.lo s.j).foldl visit (n, S)).1 : Nat)), (4, .ptr H0.length 0), (9, vi ((pre.length : Int) - 1)), (11, .ptr (H0.length + 1) 0), (12, vi (c.lo + (s.j : Nat)))]) (fun s => ⟨SH H0 sid (cellsS ((partS C f pre c.lo s.j).foldl visit (n, S)).2) (.obj (houseC h) :: .obj [vi c.lo, vi c.hi] :: s.junk), lg⟩) (fun s => w - s.j) (fun s => s.j ≤ w) ⟨0, []⟩ (Nat.zero_le _) ⟨rfl, rfl, rfl, rfl, rfl, rfl, ?_, trivial⟩ rfl ?_
  ·simp [get_cons]
  clear hcg e1 hc
  rintro ⟨j, junk⟩ hj
  simp only at hj
  have hjw : (j : Int) ≤ 200000 := by omega
  have k1 : -9223372036854775808 ≤ c.lo + (j : Int) + 1 ∧ c.lo + (j : Int) + 1 < 9223372036854775808 := by omega
  have hfin1 := visit_fold1 (partS C f pre c.lo j) n S
  have hfin2 := visit_fold2 (partS C f pre c.lo j) n S hS fun x hx => by rw [partS_len x hx]
  ((repeat refine Ws ?_);refine Wr ?_)
  rcases Nat.lt_or_ge j w with hlt | hge
  rotate_left
  ·obtain rfl : j = w := by omega
   have k2 : (c.lo + (j : Int) ≤ c.hi) = False := eq_false (by omega)
   simp (maxSteps := 1000000) only [VL,VM,↓VG,reduceIte,reduceCtorEq,zA,zB,zC,zD,zE,zF,zG,zH,zI,zJ, dg, k2]
   ((repeat refine Ws ?_);refine Wf (by first|rfl|simp only [EV,zF,reduceIte]) ?_)
   ((repeat refine Ws ?_);refine W_exit ?_)
   simp (maxSteps := 1000000) only [VL,VM,↓VG,reduceIte,reduceCtorEq,zA,zB,zC,zD,zE,zF,zG,zH,zI,zJ]
   ((repeat refine Ws ?_);refine Wr ?_)
   simp (maxSteps := 1000000) only [VL,VM,↓VG,reduceIte,reduceCtorEq,zA,zB,zC,zD,zE,zF,zG,zH,zI,zJ]
   (repeat refine Ws ?_)
   refine W_ret ?_
   try simp only [thenQ, blockQ]
   refine own_retS hsd rfl rfl (fun H => rfl) rfl ⟨rfl, rfl⟩
  have k2 : (c.lo + (j : Int) ≤ c.hi) = True := eq_true (by omega)
  have hsc := partS_succ C f pre c.lo j
  have hmo := partS_mono C f pre c.lo (show j + 1 ≤ w by omega)
  have kv : -9223372036854775808 ≤ lastI pre + (c.lo + (j : Int)) ∧ lastI pre + (c.lo + (j : Int)) < 9223372036854775808 := by omega
  have kI : (((pre.length : Int) - 1).toNat) = pre.length - 1 := by omega
  have kI2 : 0 ≤ (pre.length : Int) - 1 := by omega
  by_cases hneg : 0 ≤ lastI pre + (c.lo + (j : Int))
  rotate_left
  ·have k3 : (0 ≤ lastI pre + (c.lo + (j : Int))) = False := eq_false hneg
   rw [if_neg hneg, List.append_nil] at hsc
   simp (maxSteps := 1000000) only [VL,VM,↓VG,reduceIte,reduceCtorEq,zA,zB,zC,zD,zE,zF,zG,zH,zI,zJ, dg, k2]
   ((repeat refine Ws ?_);refine Wt (by first|rfl|simp only [EV,zF,reduceIte]) ?_)
   ((repeat refine Ws ?_);refine W_skip ?_)
   simp (maxSteps := 1000000) only [VL,VM,↓VG,reduceIte,reduceCtorEq,zA,zB,zC,zD,zE,zF,zG,zH,zI,zJ]
   ((repeat refine Ws ?_);refine W_block ?_)
   ((repeat refine Ws ?_);refine Wr ?_)
   simp (maxSteps := 1000000) only [VL,VM,↓VG,reduceIte,reduceCtorEq,zA,zB,zC,zD,zE,zF,zG,zH,zI,zJ, hlx', kI, kI2, kv, k3]
   ((repeat refine Ws ?_);refine Wf (by first|rfl|simp only [EV,zF,reduceIte]) ?_)
   ((repeat refine Ws ?_);refine W_skip ?_)
   simp (maxSteps := 1000000) only [VL,VM,↓VG,reduceIte,reduceCtorEq,zA,zB,zC,zD,zE,zF,zG,zH,zI,zJ]
   ((repeat refine Ws ?_);refine Wr ?_)
   simp (maxSteps := 1000000) only [VL,VM,↓VG,reduceIte,reduceCtorEq,zA,zB,zC,zD,zE,zF,zG,zH,zI,zJ, k1]
   refine LoopK.mk ⟨j + 1, junk⟩ (by simp only; omega) hlt ⟨rfl, rfl, ?_, rfl, rfl, rfl, ?_, trivial⟩ ?_
   ·rw [hsc]; rfl
   ·simp [get_cons, Int.add_assoc]
   ·rw [hsc]
  have k3 : (0 ≤ lastI pre + (c.lo + (j : Int))) = True := eq_true hneg
  rw [if_pos hneg] at hsc
  rw [hsc, List.length_append] at hmo
  have hap : pre.map intP ++ [[PV.int .i64 (lastI pre + (c.lo + (j : Int)))]] = (pre ++ [lastI pre + (c.lo + (j : Int))]).map intP := by simp
  have hih := fun L => ih (H0 := H0 ++ L) (sid := sid) (by rw [List.length_append]; omega) (pre ++ [lastI pre + (c.lo + (j : Int))]) ((partS C f pre c.lo j).foldl visit (n, S)).1 ((partS C f pre c.lo j).foldl visit (n, S)).2 lg (by simp only [List.length_append, List.length_cons, List.length_nil]; omega) (by simp) (by rw [hfin2]; simp only [List.length_append, List.length_cons, List.length_nil]; omega) (by rw [lastI_snoc]; simp only [List.length_append, List.length_cons, List.length_nil]; omega) (by rw [hfin1]; omega)
  have hfo : (partS C f pre c.lo (j + 1)).foldl visit (n, S) = (seqs C f (pre ++ [lastI pre + (c.lo + (j : Int))])).foldl visit (((partS C f pre c.lo j).foldl visit (n, S)).1, ((partS C f pre c.lo j).foldl visit (n, S)).2) := by rw [hsc, List.foldl_append]
  rw [hfin2, ← hS] at hih
  generalize (partS C f pre c.lo j).foldl visit (n, S) = st at hih hfo ⊢
  rw [← hfo] at hih
  have hcall : ∀ L, VC Try.prog 47 [houseV h, intsV (pre ++ [lastI pre + (c.lo + (j : Int))]), .bf sid 0 S.length 2, vi (st.1 : Nat)] ⟨SH H0 sid (cellsS st.2) L, lg⟩ (fun r M' => M' = ⟨SH H0 sid (cellsS ((partS C f pre c.lo (j + 1)).foldl visit (n, S)).2) L, lg⟩ ∧ r = vi (((partS C f pre c.lo (j + 1)).foldl visit (n, S)).1 : Nat)) := fun L => by
   rw [SH_base, SH_base (cs := cellsS ((partS C f pre c.lo (j + 1)).foldl visit (n, S)).2)]
   exact hih L
  clear hih hfo hsc
  have hcm : H0.length + (junk.length + 2) = H0.length + (junk.length + 2) := rfl
  have dgJ : ∀ cs x y o, (SH H0 sid cs (x :: y :: (junk ++ [o])))[H0.length + (junk.length + 2)]? = some o := fun cs x y o => by
   rw [SH_get hsd, List.getElem?_cons_succ, List.getElem?_cons_succ, hget0]; rfl
  have dsJ : ∀ cs x y o o', (SH H0 sid cs (x :: y :: (junk ++ [o]))).set (H0.length + (junk.length + 2)) o' = SH H0 sid cs (x :: y :: (junk ++ [o'])) := fun cs x y o o' => by
   rw [SH_set hsd, List.set_cons_succ, List.set_cons_succ, hset0]; rfl
  have q1 : ((pre.length + 1) * 8 ≤ 140737488355328) = True := eq_true (by omega)
  simp (maxSteps := 1000000) only [VL,VM,↓VG,reduceIte,reduceCtorEq,zA,zB,zC,zD,zE,zF,zG,zH,zI,zJ, dg, k2]
  ((repeat refine Ws ?_);refine Wt (by first|rfl|simp only [EV,zF,reduceIte]) ?_)
  ((repeat refine Ws ?_);refine W_skip ?_)
  simp (maxSteps := 1000000) only [VL,VM,↓VG,reduceIte,reduceCtorEq,zA,zB,zC,zD,zE,zF,zG,zH,zI,zJ]
  ((repeat refine Ws ?_);refine W_block ?_)
  ((repeat refine Ws ?_);refine Wr ?_)
  simp (maxSteps := 1000000) only [VL,VM,↓VG,reduceIte,reduceCtorEq,zA,zB,zC,zD,zE,zF,zG,zH,zI,zJ, hlx', kI, kI2, kv, k3]
  ((repeat refine Ws ?_);refine Wt (by first|rfl|simp only [EV,zF,reduceIte]) ?_)
  (repeat refine Ws ?_)
  refine W_drawP T_ok [] (by kernel_rfl) (by kernel_rfl) ?_
  generalize hi : mkPlan _ = infs
  cbv at hi
  subst hi
  simp (maxSteps := 1000000) only [VL,VM,↓VG,reduceIte,reduceCtorEq,zA,zB,zC,zD,zE,zF,zG,zH,zI,zJ, dg0, dg]
  apply call_d4 (f := 31) (fn := Try.f31) (by kernel_rfl) (by rfl)
  ·exact copyInts_k pre _ (by omega)
  simp only [List.append_assoc, List.cons_append, List.nil_append, List.length_append, List.length_cons, Nat.add_assoc]
  simp (maxSteps := 1000000) only [VL,VM,↓VG,reduceIte,reduceCtorEq,zA,zB,zC,zD,zE,zF,zG,zH,zI,zJ, dg0, dg, dl, da, hlx', kI, kI2, kv, dgJ, dsJ, q1]
  rw [hap]
  apply call_d (f := 47) (fn := Try.f47) (by kernel_rfl) (by rfl)
  ·exact hcall _
  simp (maxSteps := 1000000) only [VL,VM,↓VG,reduceIte,reduceCtorEq,zA,zB,zC,zD,zE,zF,zG,zH,zI,zJ, dg0, dg]
  ((repeat refine Ws ?_);refine Wr ?_)
  simp (maxSteps := 1000000) only [VL,VM,↓VG,reduceIte,reduceCtorEq,zA,zB,zC,zD,zE,zF,zG,zH,zI,zJ, k1]
  refine LoopK.mk ⟨j + 1, junk ++ [.clm (pre.length + 1) 1]⟩ (by simp only; omega) hlt ⟨rfl, rfl, rfl, rfl, rfl, rfl, ?_, trivial⟩ rfl
  simp [get_cons, Int.add_assoc]
end Go.Proofs.Ytmagiabapakhcaa.Vm
