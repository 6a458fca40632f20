/- A part of the proofs about the chapter of the ramps; it states no condition of its own. -/
import Derived.Test.YtkipednlefbfpaaDoorB22
import Derived.Test.YtkipednlefbfpaaDoorB23
set_option linter.unusedVariables false
set_option linter.unusedSimpArgs false
open Int renaming reduceLE → zA, reduceLT → zB, reduceToNat → zC, reduceNeg → zD
open Nat renaming reduceLT → zE, reduceEqDiff → zF, reduceAdd → zG, reduceSub → zH, reduceMul → zI, reduceLeDiff → zJ
/- A slot is put, on values. (Vm) -/
namespace Go.Proofs.YtkipednlefbfpaaDoor.Vm
open Go Go.Proofs
theorem td_set {α : Type} {l : List α} {k : Nat} {v : α} (h : k < l.length) : l.take k ++ v :: l.drop (k + 1) = l.set k v := by
 rw [List.set_eq_take_append_cons_drop, if_pos h]
theorem wkC_setm : ∀ {l : List (Nat × Nat)} {i a : Nat}, i < l.length → (wkC l).set (i * 2) (su a) = wkC (l.set i (a, (l.getD i (0, 0)).2))
 | w :: l, 0, a, _ => by simp [wkC]
 | w :: l, i + 1, a, h => by
  have ih := wkC_setm (l := l) (i := i) (a := a) (by simpa using h)
  have e : (i + 1) * 2 = i * 2 + 1 + 1 := by omega
  have hc : ∀ (w : Nat × Nat) (l : List (Nat × Nat)), wkC (w :: l) = su w.1 :: su w.2 :: wkC l := fun w l => by simp [wkC]
  rw [e, hc, List.set_cons_succ, List.set_cons_succ, ih, List.set_cons_succ, hc]
  simp
theorem wkC_setn : ∀ {l : List (Nat × Nat)} {i a : Nat}, i < l.length → (wkC l).set (i * 2 + 1) (su a) = wkC (l.set i ((l.getD i (0, 0)).1, a))
 | w :: l, 0, a, _ => by simp [wkC]
 | w :: l, i + 1, a, h => by
  have ih := wkC_setn (l := l) (i := i) (a := a) (by simpa using h)
  have e : (i + 1) * 2 + 1 = i * 2 + 1 + 1 + 1 := by omega
  have hc : ∀ (w : Nat × Nat) (l : List (Nat × Nat)), wkC (w :: l) = su w.1 :: su w.2 :: wkC l := fun w l => by simp [wkC]
  rw [e, hc, List.set_cons_succ, List.set_cons_succ, ih, List.set_cons_succ, hc]
  simp
section
variable {R : Ry} (h : RyOk R)
include h
theorem ry_setm {i a : Nat} (hi : i < 3) : (ryC R).take (3 + i * 2) ++ su a :: (ryC R).drop (3 + (i * 2 + 1)) = ryC { R with wk := R.wk.set i (a, notAt R i) } := by
 have hl := ry_len h
 have hw := h.wl
 have hwl := wkC_len R.wk
 rw [show 3 + (i * 2 + 1) = (3 + i * 2) + 1 by omega, td_set (by omega)]
 unfold ryC
 rw [List.set_append_right _ _ (by simp), show 3 + i * 2 - (yardC R.y).length = i * 2 by simp, List.set_append_left _ _ (by omega), wkC_setm (by omega)]
 rfl
theorem ry_setn {i a : Nat} (hi : i < 3) : (ryC R).take (3 + (i * 2 + 1)) ++ su a :: (ryC R).drop (3 + (i * 2 + 2)) = ryC { R with wk := R.wk.set i (mustAt R i, a) } := by
 have hl := ry_len h
 have hw := h.wl
 have hwl := wkC_len R.wk
 rw [show 3 + (i * 2 + 2) = (3 + (i * 2 + 1)) + 1 by omega, td_set (by omega)]
 unfold ryC
 rw [List.set_append_right _ _ (by simp), show 3 + (i * 2 + 1) - (yardC R.y).length = i * 2 + 1 by simp, List.set_append_left _ _ (by omega), wkC_setn (by omega)]
 rfl
theorem ry_setf {c : Nat} {f : Int} (hc : c < 7) : (ryC R).take (9 + c) ++ vi f :: (ryC R).drop (9 + (c + 1)) = ryC { R with frm := R.frm.set c f } := by
 have hl := ry_len h
 have hw := h.wl
 have hf := h.fl
 have hwl := wkC_len R.wk
 rw [show 9 + (c + 1) = (9 + c) + 1 by omega, td_set (by omega)]
 unfold ryC
 rw [List.set_append_right _ _ (by simp; omega), List.set_append_right _ _ (by simp; omega), List.set_append_left _ _ (by simp; omega)]
 rw [show 9 + c - (yardC R.y).length - (wkC R.wk).length = c by simp; omega, ← List.map_set]
end
theorem refsL_nil : ∀ {l : List VV}, (∀ v ∈ l, refs v = []) → refsL l = []
 | [], _ => rfl
 | v :: l, h => by rw [refsL, h v (by simp), refsL_nil (l := l) fun x hx => h x (by simp [hx])]; rfl
theorem ry_refs (R : Ry) : refsL (ryC R) = [] := by
 refine refsL_nil fun v hv => ?_
 unfold ryC wkC at hv
 rcases List.mem_append.1 hv with hv | hv
 ·simp only [yardC, List.mem_cons, List.not_mem_nil, or_false] at hv
  rcases hv with rfl | rfl | rfl <;> rfl
 ·rcases List.mem_append.1 hv with hv | hv
  ·obtain ⟨l, hl, hv⟩ := List.mem_flatten.1 hv
   obtain ⟨w, _, rfl⟩ := List.mem_map.1 hl
   simp only [List.mem_cons, List.not_mem_nil, or_false] at hv
   rcases hv with rfl | rfl <;> rfl
  ·rcases List.mem_append.1 hv with hv | hv
   ·obtain ⟨w, _, rfl⟩ := List.mem_map.1 hv
    rfl
   ·rw [List.mem_singleton] at hv
    subst hv
    rfl
theorem putW_next {k c r : Nat} {l : List (Nat × Nat)} (hk : k < l.length) : putW (k + 1) c r l = (putW k c r l).set k (if k = r then ((l.getD k (0, 0)).1 ||| 2 ^ c, (l.getD k (0, 0)).2) else ((l.getD k (0, 0)).1, (l.getD k (0, 0)).2 ||| 2 ^ c)) := by
 unfold putW
 apply List.ext_getElem?
 intro j
 rw [List.getElem?_set, List.getElem?_mapIdx, List.getElem?_mapIdx]
 by_cases hj : k = j
 ·subst hj
  rw [if_pos rfl, if_pos (by simpa using hk), List.getElem?_eq_getElem hk]
  simp [hk]
 ·rw [if_neg hj]
  congr 1
  funext w
  by_cases h1 : j < k
  ·rw [if_pos h1, if_pos (by omega)]
  ·rw [if_neg h1, if_neg (by omega)]
theorem putW_zero (c r : Nat) (l : List (Nat × Nat)) : putW 0 c r l = l := by
 unfold putW
 apply List.ext_getElem?
 intro j
 rw [List.getElem?_mapIdx]
 cases l[j]? <;> simp
theorem own_retC0 {f : Nat} {fn : Func} {M : Mem} {L : List VObj} {e : Env} {ex : Exit} {a t : Nat} {X Z : VV} (hex : ex = .normal ∨ ex = .ret) (h1 : fn.results.toList = [.cell a t]) (hr : vload T t (get e a) ⟨M.H ++ L, M.lg⟩ = some Z) (hZ : frz M.H.length (M.H ++ L) Z = X) (h2 : refs X = []) : ownQ T f fn M (fun r M' => M' = M ∧ r = X) ex e ⟨M.H ++ L, M.lg⟩ [] :=
 ⟨hex, rfl, ⟨[], by simp, by simp⟩, M.H, L, rfl, rfl, [Z], by rw [h1]; simp [vresL, hr], X, hZ, by simp [h2], rfl, rfl⟩
def putTo (R : Ry) (c r k : Nat) : Ry := { R with wk := putW k c r R.wk }
theorem putTo_ok {R : Ry} (hR : RyOk R) {c r k : Nat} (hc : c < 7) (hk : k ≤ 3) : RyOk (putTo R c r k) :=
 ⟨hR.y, by simp [putTo, putW, hR.wl], hR.fl, fun i => putW_bd hc (by rw [hR.wl]; exact hk) hR.w i, hR.f, hR.t0, hR.t1⟩
theorem putTo_at {R : Ry} (hR : RyOk R) {c r k : Nat} (hk : k ≤ 3) : mustAt (putTo R c r k) k = mustAt R k ∧ notAt (putTo R c r k) k = notAt R k := by
 unfold mustAt notAt putTo
 simp only
 rw [putW_at _ _ _ _ _ (by rw [hR.wl]; exact hk), if_neg (Nat.lt_irrefl k)]
 exact ⟨rfl, rfl⟩
theorem putTo_succ {R : Ry} (hR : RyOk R) {c r k : Nat} (hk : k < 3) : putTo R c r (k + 1) = { putTo R c r k with wk := (putTo R c r k).wk.set k (if k = r then (mustAt R k ||| 2 ^ c, notAt R k) else (mustAt R k, notAt R k ||| 2 ^ c)) } := by
 unfold putTo mustAt notAt
 simp only
 rw [putW_next (by rw [hR.wl]; exact hk)]
set_option maxHeartbeats 2000000 in
theorem put_v {R : Ry} (hR : RyOk R) {w yb rb cb fb : Nat} {c r : Nat} {f : Int} (M : Mem) (hw : M.H[w]? = some (.obj (ryC R))) (hyb : M.H[yb]? = some (.obj (yardC R.y))) (hrb : M.H[rb]? = some (.obj [vi r])) (hcb : M.H[cb]? = some (.obj [vi c])) (hfb : M.H[fb]? = some (.obj [vi f])) (hc : c < 7) :
  VC Tryd.prog 38 [.ptr w 0, .ptr yb 0, .ptr rb 0, .ptr cb 0, .ptr fb 0] M (fun x M' => M' = M ∧ x = ryV (putR R c r f)) := by
 have hn3 := hR.y.n1
 have hlen := ry_len hR
 have hle := ry_le hR
 have hc77 : c ≤ 7 := by omega
 have hpc : 2 ^ c < 256 := Nat.lt_of_le_of_lt (Nat.pow_le_pow_right (n := 2) (by decide) hc77) (by decide)
 have gw := fun X => app_get hw X
 have gy := fun X => app_get hyb X
 have gr := fun X => app_get hrb X
 have gc := fun X => app_get hcb X
 have gf := fun X => app_get hfb X
 refine VC_own' T_ok (f := 38) (fn := Tryd.f38) (by kernel_rfl) rfl Tryd.ntmps38 (by rfl) (by rfl) ?_
 ((repeat refine Ws ?_);refine W_regionE T_ok ?_; intro Kn hKn)
 ((simp (maxSteps := 1000000) only [VL,VM,↓VG,reduceIte,reduceCtorEq,zA,zB,zC,zD,zE,zF,zG,zH,zI,zJ]); rw [hKn];clear hKn Kn;simp only [QV,reduceIte,reduceCtorEq,Nat.reduceEqDiff])
 ((repeat refine Ws ?_);refine W_regionE T_ok ?_; intro Kn hKn)
 ((simp (maxSteps := 1000000) only [VL,VM,↓VG,reduceIte,reduceCtorEq,zA,zB,zC,zD,zE,zF,zG,zH,zI,zJ, gw, hle, ry_take hR, ry_strip, hlen, ry_cells, ry_refs]); rw [hKn];clear hKn Kn;simp only [QV,reduceIte,reduceCtorEq,Nat.reduceEqDiff])
 ((repeat refine Ws ?_);refine W_regionE T_ok ?_; intro Kn hKn)
 ((simp (maxSteps := 1000000) only [VL,VM,↓VG,reduceIte,reduceCtorEq,zA,zB,zC,zD,zE,zF,zG,zH,zI,zJ, gy]); rw [hKn];clear hKn Kn;simp only [QV,reduceIte,reduceCtorEq,Nat.reduceEqDiff])
 ((repeat refine Ws ?_);refine W_block ?_; (repeat refine Ws ?_)); refine W_loopS (fun i : Nat => [(0, .ptr w 0), (1, .ptr yb 0), (2, .ptr rb 0), (3, .ptr cb 0), (4, .ptr fb 0), (5, .ptr M.H.length 0), (6, .ptr (M.H.length + 1) 0), (11, vi R.y.ramps.length), (12, vi i)]) (fun i => ⟨M.H ++ [.obj [.sf 0 [], .sf 0 [], vi 0, .p (.int .u8 0), .p (.int .u8 0), .p (.int .u8 0), .p (.int .u8 0), .p (.int .u8 0), .p (.int .u8 0), vi 0, vi 0, vi 0, vi 0, vi 0, vi 0, vi 0, vi 0], .obj (ryC (putTo R c r i))], M.lg⟩) (fun i => R.y.ramps.length - i) (fun i => i ≤ R.y.ramps.length) 0 (Nat.zero_le _) ⟨rfl, rfl, rfl, rfl, rfl, rfl, rfl, rfl, rfl, trivial⟩ (by rw [putTo, putW_zero]) ?_
 intro i hi
 have k1 : -9223372036854775808 ≤ (i : Int) + 1 ∧ (i : Int) + 1 < 9223372036854775808 := by omega
 ((repeat refine Ws ?_);refine W_regionE T_ok ?_; intro Kn hKn)
 rcases Nat.lt_or_ge i R.y.ramps.length with hlt | hge
 ·have k2 : ((i : Int) < (R.y.ramps.length : Int)) = True := eq_true (by omega)
  have hi3 : i < 3 := by omega
  have hP := putTo_ok (r := r) hR hc (show i ≤ 3 by omega)
  obtain ⟨a1, a2⟩ := putTo_at (c := c) (r := r) hR (show i ≤ 3 by omega)
  have hsucc := putTo_succ (c := c) (r := r) hR hi3
  have hPl := ry_len hP
  have b1 := (hR.w i).1
  have b2 := (hR.w i).2
  have b1' : mustAt R i < 256 := by omega
  have b2' : notAt R i < 256 := by omega
  have e1 := ry_m hP hi3
  have e2 := ry_n hP hi3
  rw [a1] at e1
  rw [a2] at e2
  have hs1 := fun a => ry_setm (a := a) hP hi3
  have hs2 := fun a => ry_setn (a := a) hP hi3
  rw [a2] at hs1
  rw [a1] at hs2
  have hl1 : (3 + (i * 2 + 1) ≤ 17) = True := eq_true (by omega)
  have hl2 : (3 + (i * 2 + 2) ≤ 17) = True := eq_true (by omega)
  generalize putTo R c r i = P at *
  ((simp (maxSteps := 1000000) only [VL,VM,↓VG,reduceIte,reduceCtorEq,zA,zB,zC,zD,zE,zF,zG,zH,zI,zJ, k2]); rw [hKn];clear hKn Kn;simp only [QV,reduceIte,reduceCtorEq,Nat.reduceEqDiff])
  ((repeat refine Ws ?_);refine Wt (by first|rfl|simp only [EV,zF,reduceIte]) ?_)
  (((repeat refine Ws ?_);refine W_skip ?_); simp only [QV,reduceIte,reduceCtorEq,Nat.reduceEqDiff])
  ((repeat refine Ws ?_);refine W_block ?_)
  ((repeat refine Ws ?_);refine W_regionE T_ok ?_; intro Kn hKn)
  ((simp (maxSteps := 1000000) only [VL,VM,↓VG,reduceIte,reduceCtorEq,zA,zB,zC,zD,zE,zF,zG,zH,zI,zJ]); rw [hKn];clear hKn Kn;simp only [QV,reduceIte,reduceCtorEq,Nat.reduceEqDiff])
  ((repeat refine Ws ?_);refine W_regionE T_ok ?_; intro Kn hKn)
  by_cases hir : i = r
  ·have hir' : ((i : Int) = (r : Int)) = True := eq_true (by omega)
   rw [if_pos hir] at hsucc
   ((simp (maxSteps := 1000000) only [VL,VM,↓VG,reduceIte,reduceCtorEq,zA,zB,zC,zD,zE,zF,zG,zH,zI,zJ, gr, hir']); rw [hKn];clear hKn Kn;simp only [QV,reduceIte,reduceCtorEq,Nat.reduceEqDiff])
   ((repeat refine Ws ?_);refine Wt (by first|rfl|simp only [EV,zF,reduceIte]) ?_)
   (repeat refine Ws ?_)
   refine W_drawE T_ok [] (by kernel_rfl) (by kernel_rfl) ?_
   intro Kn hKn
   generalize hi : mkPlan _ = infs
   cbv at hi
   subst hi
   simp (maxSteps := 1000000) only [VL,VM,↓VG,reduceIte,reduceCtorEq,zA,zB,zC,zD,zE,zF,zG,zH,zI,zJ, hi3, e1, gc]
   apply call_d (f := 39) (fn := Tryd.f39) (by kernel_rfl) (by rfl)
   ·exact one_s c _ hc77
   ((simp (maxSteps := 1000000) only [VL,VM,↓VG,reduceIte,reduceCtorEq,zA,zB,zC,zD,zE,zF,zG,zH,zI,zJ, u8_or, b1', hpc, hi3, hPl, hl1]); rw [hKn];clear hKn Kn;simp only [QV,reduceIte,reduceCtorEq,Nat.reduceEqDiff])
   rw [hs1]
   refine ⟨e1, ?_⟩
   ((repeat refine Ws ?_);refine W_regionE T_ok ?_; intro Kn hKn)
   ((simp (maxSteps := 1000000) only [VL,VM,↓VG,reduceIte,reduceCtorEq,zA,zB,zC,zD,zE,zF,zG,zH,zI,zJ, k1]); rw [hKn];clear hKn Kn;simp only [QV,reduceIte,reduceCtorEq,Nat.reduceEqDiff])
   refine LoopK.mk (i + 1) (by omega) (by omega) ⟨rfl, rfl, rfl, rfl, rfl, rfl, rfl, rfl, rfl, trivial⟩ ?_
   rw [hsucc]
  ·have hir' : ((i : Int) = (r : Int)) = False := eq_false (by omega)
   rw [if_neg hir] at hsucc
   ((simp (maxSteps := 1000000) only [VL,VM,↓VG,reduceIte,reduceCtorEq,zA,zB,zC,zD,zE,zF,zG,zH,zI,zJ, gr, hir']); rw [hKn];clear hKn Kn;simp only [QV,reduceIte,reduceCtorEq,Nat.reduceEqDiff])
   ((repeat refine Ws ?_);refine Wf (by first|rfl|simp only [EV,zF,reduceIte]) ?_)
   (repeat refine Ws ?_)
   refine W_drawE T_ok [] (by kernel_rfl) (by kernel_rfl) ?_
   intro Kn hKn
   generalize hi : mkPlan _ = infs
   cbv at hi
   subst hi
   simp (maxSteps := 1000000) only [VL,VM,↓VG,reduceIte,reduceCtorEq,zA,zB,zC,zD,zE,zF,zG,zH,zI,zJ, hi3, e2, gc]
   apply call_d (f := 39) (fn := Tryd.f39) (by kernel_rfl) (by rfl)
   ·exact one_s c _ hc77
   ((simp (maxSteps := 1000000) only [VL,VM,↓VG,reduceIte,reduceCtorEq,zA,zB,zC,zD,zE,zF,zG,zH,zI,zJ, u8_or, b2', hpc, hi3, hPl, hl2]); rw [hKn];clear hKn Kn;simp only [QV,reduceIte,reduceCtorEq,Nat.reduceEqDiff])
   rw [hs2]
   refine ⟨e2, ?_⟩
   ((repeat refine Ws ?_);refine W_regionE T_ok ?_; intro Kn hKn)
   ((simp (maxSteps := 1000000) only [VL,VM,↓VG,reduceIte,reduceCtorEq,zA,zB,zC,zD,zE,zF,zG,zH,zI,zJ, k1]); rw [hKn];clear hKn Kn;simp only [QV,reduceIte,reduceCtorEq,Nat.reduceEqDiff])
   refine LoopK.mk (i + 1) (by omega) (by omega) ⟨rfl, rfl, rfl, rfl, rfl, rfl, rfl, rfl, rfl, trivial⟩ ?_
   rw [hsucc]
 ·have k2 : ((i : Int) < (R.y.ramps.length : Int)) = False := eq_false (by omega)
  obtain rfl : i = R.y.ramps.length := by omega
  have hP := putTo_ok (r := r) hR hc hn3
  have hPl := ry_len hP
  have hQ : RyOk (putR R c r f) → (ryC (putR R c r f)).length = 17 := fun h => ry_len h
  have hs := ry_setf (f := f) hP hc
  have hfin : ({ putTo R c r R.y.ramps.length with frm := (putTo R c r R.y.ramps.length).frm.set c f } : Ry) = putR R c r f := rfl
  rw [hfin] at hs
  have hl3 : (9 + (c + 1) ≤ 17) = True := eq_true (by omega)
  have hlen2 : (ryC (putR R c r f)).length = 17 := by
   rw [← hs]
   simp [hPl]; omega
  have hle2 : (17 ≤ (ryC (putR R c r f)).length) = True := eq_true (by omega)
  have htk : (ryC (putR R c r f)).take 17 = ryC (putR R c r f) := List.take_of_length_le (by omega)
  ((simp (maxSteps := 1000000) only [VL,VM,↓VG,reduceIte,reduceCtorEq,zA,zB,zC,zD,zE,zF,zG,zH,zI,zJ, k2]); rw [hKn];clear hKn Kn;simp only [QV,reduceIte,reduceCtorEq,Nat.reduceEqDiff])
  ((repeat refine Ws ?_);refine Wf (by first|rfl|simp only [EV,zF,reduceIte]) ?_)
  (((repeat refine Ws ?_);refine W_exit ?_); simp only [QV,reduceIte,reduceCtorEq,Nat.reduceEqDiff])
  ((repeat refine Ws ?_);refine W_regionE T_ok ?_; intro Kn hKn)
  ((simp (maxSteps := 1000000) only [VL,VM,↓VG,reduceIte,reduceCtorEq,zA,zB,zC,zD,zE,zF,zG,zH,zI,zJ, gc, gf, hc, hPl, hl3]); rw [hKn];clear hKn Kn;simp only [QV,reduceIte,reduceCtorEq,Nat.reduceEqDiff])
  rw [hs]
  ((repeat refine Ws ?_);refine W_regionE T_ok ?_; intro Kn hKn)
  ((simp (maxSteps := 1000000) only [VL,VM,↓VG,reduceIte,reduceCtorEq,zA,zB,zC,zD,zE,zF,zG,zH,zI,zJ, hle2, htk, ry_strip, hlen2, ry_cells, ry_refs]); rw [hKn];clear hKn Kn;simp only [QV,reduceIte,reduceCtorEq,Nat.reduceEqDiff])
  (repeat refine Ws ?_)
  refine W_ret ?_
  try simp only [thenQ, blockQ]
  refine own_retC0 (Z := ryV (putR R c r f)) (.inr rfl) rfl ?_ rfl (ry_refs _)
  simp [vload, t_ry, get_cons, nat_ble, hlen2, ry_strip, hle2, htk]
end Go.Proofs.YtkipednlefbfpaaDoor.Vm
