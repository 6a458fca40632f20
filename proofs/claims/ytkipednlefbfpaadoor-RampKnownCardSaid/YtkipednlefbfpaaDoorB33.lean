/- A part of the proofs about the chapter of the ramps; it states no condition of its own. -/
import Derived.Test.YtkipednlefbfpaaDoorB13
import Derived.Test.YtkipednlefbfpaaDoorB15
import Derived.Test.YtkipednlefbfpaaDoorB17
import Derived.Test.YtkipednlefbfpaaDoorB25
import Derived.Test.YtkipednlefbfpaaDoorB32
set_option linter.unusedVariables false
set_option linter.unusedSimpArgs false
open Int renaming reduceLE → zA, reduceLT → zB, reduceToNat → zC, reduceNeg → zD
open Nat renaming reduceLT → zE, reduceEqDiff → zF, reduceAdd → zG, reduceSub → zH, reduceMul → zI, reduceLeDiff → zJ
/- The program's Write, on values. (Vm) -/
namespace Go.Proofs.YtkipednlefbfpaaDoor.Vm
open Go Go.Proofs
def WM (H : List VObj) (y : Ya) (p : By) (L : List VObj) : List VObj := H ++ .obj (yardC y) :: .clm p.length 1 :: .bld tBld tByte (H.length + 1) p :: L
section
variable {H : List VObj} {y : Ya} {p p' : By} {L : List VObj}
theorem WM_app (X : List VObj) : WM H y p L ++ X = WM H y p (L ++ X) := by simp [WM]
theorem WM_y : (WM H y p L)[H.length]? = some (.obj (yardC y)) := by unfold WM; rw [hget0]; rfl
theorem WM_len : (WM H y p L).length = H.length + (3 + L.length) := by simp [WM]; omega
theorem WM_at (k : Nat) : (WM H y p L)[H.length + (3 + k)]? = L[k]? := by
 unfold WM
 rw [hget, show 3 + k = k + 3 by omega]
 rfl
theorem WM_set (k : Nat) (o : VObj) : (WM H y p L).set (H.length + (3 + k)) o = WM H y p (L.set k o) := by
 unfold WM
 rw [hset, show 3 + k = k + 3 by omega]
 rfl
theorem WM_bld : bldH (WM H y p L) (H.length + 2) (H.length + 1) p' = WM H y p' L := by
 unfold bldH WM
 rw [hset, hset]
 rfl
theorem WM_end : bldE (WM H y p L) (H.length + 2) (H.length + 1) p = H ++ .obj (yardC y) :: .clm (p.length + 1) 1 :: .bld tBld tByte (H.length + 1) p :: L := by
 unfold bldE WM
 rw [hset, hset]
 rfl
end
theorem prowW {w : By} {l : List Int} {H : List VObj} {y : Ya} {p : By} {L : List VObj} {lg : List (Nat × Nat)} (hw0 : w ≠ []) (hw : w.length ≤ 1000000) (hl : l.length ≤ 1000000) (hp : p.length ≤ 1000000000) (hf : FitL l) :
  VC Tryd.prog 41 [vs w, intsV l, .ptr (H.length + 2) 0] ⟨WM H y p L, lg⟩ (fun r M' => M' = ⟨WM H y (p ++ rowS w l) L, lg⟩ ∧ r = .tup []) := by
 have h := prow_v w l (H := WM H y p L) (i := H.length + 2) (j := H.length + 1) (pre := p) (lg := lg) (by omega) (by rw [WM_len]; omega) (by rw [WM_len]; omega) hw0 hw hl hp hf
 rw [WM_bld, WM_bld] at h
 exact h
theorem strW {H : List VObj} {y : Ya} {p : By} {L : List VObj} {lg : List (Nat × Nat)} (h0 : p ≠ []) :
  VC Tryd.prog 44 [.ptr (H.length + 2) 0] ⟨WM H y p L, lg⟩ (fun r M' => M' = ⟨H ++ .obj (yardC y) :: .clm (p.length + 1) 1 :: .bld tBld tByte (H.length + 1) p :: L, lg⟩ ∧ r = vs p) := by
 have h := string_v (H := WM H y p L) (i := H.length + 2) (j := H.length + 1) (l := p) (lg := lg) (by unfold WM; rw [hget]; rfl) (by unfold WM; rw [hget]; rfl) h0
 rw [WM_end] at h
 exact h
set_option maxHeartbeats 2000000 in
theorem pwrite_v (y : Ya) (M : Mem) (hn : y.ramps.length ≤ 1000000) (hm : y.carts.length ≤ 1000000) (hl : ∀ c ∈ y.carts, c.ramps.length ≤ 1000000) : VC Tryd.prog 15 [yardV y] M (fun r M' => M' = M ∧ r = .tup [vs (writeT y), vi (yErr y)]) := by
 refine VC_own' T_ok (f := 15) (fn := Tryd.f15) (by kernel_rfl) rfl Tryd.ntmps15 (by rfl) (by rfl) ?_
 ((repeat refine Ws ?_);refine W_regionE T_ok ?_; intro Kn hKn)
 ((simp (maxSteps := 1000000) only [VL,VM,↓VG,reduceIte,reduceCtorEq,zA,zB,zC,zD,zE,zF,zG,zH,zI,zJ]); rw [hKn];clear hKn Kn;simp only [QV,reduceIte,reduceCtorEq,Nat.reduceEqDiff])
 ((repeat refine Ws ?_);refine W_regionE T_ok ?_; intro Kn hKn)
 simp (maxSteps := 1000000) only [VL,VM,↓VG,reduceIte,reduceCtorEq,zA,zB,zC,zD,zE,zF,zG,zH,zI,zJ]
 apply call_eq (f := 7) (fn := Tryd.f7) (by kernel_rfl) (by rfl)
 ·exact check_v y _ hn hm hl
 ((simp (maxSteps := 1000000) only [VL,VM,↓VG,reduceIte,reduceCtorEq,zA,zB,zC,zD,zE,zF,zG,zH,zI,zJ]); rw [hKn];clear hKn Kn;simp only [QV,reduceIte,reduceCtorEq,Nat.reduceEqDiff])
 ((repeat refine Ws ?_);refine W_regionE T_ok ?_; intro Kn hKn)
 by_cases h1 : yErr y = 0
 rotate_left
 ·have k1 : (yErr y = 0) = False := eq_false h1
  ((simp (maxSteps := 1000000) only [VL,VM,↓VG,reduceIte,reduceCtorEq,zA,zB,zC,zD,zE,zF,zG,zH,zI,zJ, k1]); rw [hKn];clear hKn Kn;simp only [QV,reduceIte,reduceCtorEq,Nat.reduceEqDiff])
  ((repeat refine Ws ?_);refine Wt (by first|rfl|simp only [EV,zF,reduceIte]) ?_)
  ((repeat refine Ws ?_);refine W_regionE T_ok ?_; intro Kn hKn)
  ((simp (maxSteps := 1000000) only [VL,VM,↓VG,reduceIte,reduceCtorEq,zA,zB,zC,zD,zE,zF,zG,zH,zI,zJ]); rw [hKn];clear hKn Kn;simp only [QV,reduceIte,reduceCtorEq,Nat.reduceEqDiff])
  (repeat refine Ws ?_)
  refine W_ret ?_
  try simp only [thenQ, blockQ]
  refine own_ret2t rfl ?_ ?_ (by rfl) (by rfl)
  ·simp only [get_cons, frz, vtup, Nat.reduceEqDiff, if_true, if_false, reduceIte]
   rw [show writeT y = [] from if_neg h1]
   rfl
  ·simp only [get_cons, frz, vtup, Nat.reduceEqDiff, if_true, if_false, reduceIte]
 have hy := yErr_ok.1 h1
 have k1 : (yErr y = 0) = True := eq_true h1
 have n1 := hy.n1
 have m1 := hy.m1
 have s0 := hy.s0
 have s1 := hy.s1
 ((simp (maxSteps := 1000000) only [VL,VM,↓VG,reduceIte,reduceCtorEq,zA,zB,zC,zD,zE,zF,zG,zH,zI,zJ, k1]); rw [hKn];clear hKn Kn;simp only [QV,reduceIte,reduceCtorEq,Nat.reduceEqDiff])
 ((repeat refine Ws ?_);refine Wf (by first|rfl|simp only [EV,zF,reduceIte]) ?_)
 (((repeat refine Ws ?_);refine W_skip ?_); simp only [QV,reduceIte,reduceCtorEq,Nat.reduceEqDiff])
 have fs : FitL [y.sweep] := fun n hn => by
  simp only [List.mem_singleton] at hn
  omega
 have l0 := rowS_len (w := wYard) fs
 (repeat refine Ws ?_)
 refine W_allocB T_ok (tE := tByte) t_build rfl (by decide) ?_
 refine W_eqM (M' := ⟨WM M.H y [] [], M.lg⟩) (by simp [WM]) ?_
 simp only [List.length_append, List.length_singleton, Nat.add_assoc, Nat.reduceAdd]
 ((repeat refine Ws ?_);refine W_regionE T_ok ?_; intro Kn hKn)
 ((simp (maxSteps := 1000000) only [VL,VM,↓VG,reduceIte,reduceCtorEq,zA,zB,zC,zD,zE,zF,zG,zH,zI,zJ]); rw [hKn];clear hKn Kn;simp only [QV,reduceIte,reduceCtorEq,Nat.reduceEqDiff])
 have lr : ∀ i, ((y.ramps.take i).flatMap fun r => rowS wRamp (raL r)).length ≤ 300 := fun i => by
  have := byF_len (f := fun r => rowS wRamp (raL r)) (k := 100) (l := y.ramps.take i) fun r hr => raRow_len (hy.ra r (List.mem_of_mem_take hr))
  rw [List.length_take] at this
  omega
 have lc : ∀ i, ((y.carts.take i).flatMap fun c => rowS wCart (ctL c)).length ≤ 1400 := fun i => by
  have := byF_len (f := fun c => rowS wCart (ctL c)) (k := 200) (l := y.carts.take i) fun c hc => ctRow_len (hy.ct c (List.mem_of_mem_take hc)) n1
  rw [List.length_take] at this
  omega
 simp only [wYard, List.length_cons, List.length_nil] at l0
 ((repeat refine Ws ?_);refine W_regionE T_ok ?_; intro Kn hKn)
 simp (maxSteps := 1000000) only [VL,VM,↓VG,reduceIte,reduceCtorEq,zA,zB,zC,zD,zE,zF,zG,zH,zI,zJ, WM_y]
 apply callf_eq (f := 41) (fn := Tryd.f41) (by kernel_rfl) (by rfl)
 ·exact prowW (w := wYard) (l := [y.sweep]) (by simp [wYard]) (by simp [wYard]) (by simp) (by simp) fs
 ((simp (maxSteps := 1000000) only [VL,VM,↓VG,reduceIte,reduceCtorEq,zA,zB,zC,zD,zE,zF,zG,zH,zI,zJ]); rw [hKn];clear hKn Kn;simp only [QV,reduceIte,reduceCtorEq,Nat.reduceEqDiff])
 ((repeat refine Ws ?_);refine W_regionE T_ok ?_; intro Kn hKn)
 ((simp (maxSteps := 1000000) only [VL,VM,↓VG,reduceIte,reduceCtorEq,zA,zB,zC,zD,zE,zF,zG,zH,zI,zJ, WM_y]); rw [hKn];clear hKn Kn;simp only [QV,reduceIte,reduceCtorEq,Nat.reduceEqDiff])
 ((repeat refine Ws ?_);refine W_block ?_; (repeat refine Ws ?_)); refine W_loopS (fun s : Nat × List VObj => [(1, .ptr M.H.length 0), (5, .ptr (M.H.length + 2) 0), (6, .fn (.func 41) [] [.ptr (M.H.length + 2) 0]), (23, rasV y.ramps), (24, vi y.ramps.length), (25, vi s.1)]) (fun s => ⟨WM M.H y (rowS wYard [y.sweep] ++ (y.ramps.take s.1).flatMap fun r => rowS wRamp (raL r)) s.2, M.lg⟩) (fun s => y.ramps.length - s.1) (fun s => s.1 ≤ y.ramps.length) (0, []) (Nat.zero_le _) ⟨rfl, rfl, rfl, rfl, rfl, rfl, trivial⟩ (by simp) ?_
 rintro ⟨i, L⟩ hi
 simp only at hi
 have k2 : -9223372036854775808 ≤ (i : Int) + 1 ∧ (i : Int) + 1 < 9223372036854775808 := by omega
 ((repeat refine Ws ?_);refine W_regionE T_ok ?_; intro Kn hKn)
 rcases Nat.lt_or_ge i y.ramps.length with hlt | hge
 ·have k3 : ((i : Int) < (y.ramps.length : Int)) = True := eq_true (by omega)
  have hx := map_at (f := raP) (List.getElem?_eq_getElem hlt)
  have hv := hy.ra _ (List.getElem_mem hlt)
  have key := byF_take (f := fun r => rowS wRamp (raL r)) hlt
  have ll := lr i
  generalize y.ramps[i] = r at hx hv key
  generalize ((y.ramps.take i).flatMap fun r => rowS wRamp (raL r)) = pre at key ll ⊢
  have hp : (rowS wYard [y.sweep] ++ pre).length ≤ 1000000000 := by rw [List.length_append]; simp only [wYard]; omega
  ((simp (maxSteps := 1000000) only [VL,VM,↓VG,reduceIte,reduceCtorEq,zA,zB,zC,zD,zE,zF,zG,zH,zI,zJ, k3]); rw [hKn];clear hKn Kn;simp only [QV,reduceIte,reduceCtorEq,Nat.reduceEqDiff])
  ((repeat refine Ws ?_);refine Wt (by first|rfl|simp only [EV,zF,reduceIte]) ?_)
  (((repeat refine Ws ?_);refine W_skip ?_); simp only [QV,reduceIte,reduceCtorEq,Nat.reduceEqDiff])
  ((repeat refine Ws ?_);refine W_block ?_)
  ((repeat refine Ws ?_);refine W_regionE T_ok ?_; intro Kn hKn)
  ((simp (maxSteps := 1000000) only [VL,VM,↓VG,reduceIte,reduceCtorEq,zA,zB,zC,zD,zE,zF,zG,zH,zI,zJ, hx, WM_len, WM_app, WM_at, WM_set]); rw [hKn];clear hKn Kn;simp only [QV,reduceIte,reduceCtorEq,Nat.reduceEqDiff])
  ((repeat refine Ws ?_);refine W_regionE T_ok ?_; intro Kn hKn)
  simp (maxSteps := 1000000) only [VL,VM,↓VG,reduceIte,reduceCtorEq,zA,zB,zC,zD,zE,zF,zG,zH,zI,zJ, WM_len, WM_at]
  apply callf_eq (f := 41) (fn := Tryd.f41) (by kernel_rfl) (by rfl)
  ·exact prowW (w := wRamp) (l := raL r) (by simp [wRamp]) (by simp [wRamp]) (by simp [raL]) hp (raV_fit hv)
  ((simp (maxSteps := 1000000) only [VL,VM,↓VG,reduceIte,reduceCtorEq,zA,zB,zC,zD,zE,zF,zG,zH,zI,zJ]); rw [hKn];clear hKn Kn;simp only [QV,reduceIte,reduceCtorEq,Nat.reduceEqDiff])
  ((repeat refine Ws ?_);refine W_regionE T_ok ?_; intro Kn hKn)
  ((simp (maxSteps := 1000000) only [VL,VM,↓VG,reduceIte,reduceCtorEq,zA,zB,zC,zD,zE,zF,zG,zH,zI,zJ, k2]); rw [hKn];clear hKn Kn;simp only [QV,reduceIte,reduceCtorEq,Nat.reduceEqDiff])
  refine LoopK.mk (i + 1, L ++ [.obj [vi r.open_, vi r.shut, vi r.bears]]) (by simp; omega) (by simp; omega) ⟨rfl, rfl, rfl, rfl, rfl, rfl, trivial⟩ ?_
  rw [key]; try simp
 have k3 : ((i : Int) < (y.ramps.length : Int)) = False := eq_false (by omega)
 obtain rfl : i = y.ramps.length := by omega
 ((simp (maxSteps := 1000000) only [VL,VM,↓VG,reduceIte,reduceCtorEq,zA,zB,zC,zD,zE,zF,zG,zH,zI,zJ, k3, List.take_length]); rw [hKn];clear hKn Kn;simp only [QV,reduceIte,reduceCtorEq,Nat.reduceEqDiff])
 ((repeat refine Ws ?_);refine Wf (by first|rfl|simp only [EV,zF,reduceIte]) ?_)
 (((repeat refine Ws ?_);refine W_exit ?_); simp only [QV,reduceIte,reduceCtorEq,Nat.reduceEqDiff])
 have lrr := lr y.ramps.length
 rw [List.take_length] at lrr
 ((repeat refine Ws ?_);refine W_regionE T_ok ?_; intro Kn hKn)
 ((simp (maxSteps := 1000000) only [VL,VM,↓VG,reduceIte,reduceCtorEq,zA,zB,zC,zD,zE,zF,zG,zH,zI,zJ, WM_y]); rw [hKn];clear hKn Kn;simp only [QV,reduceIte,reduceCtorEq,Nat.reduceEqDiff])
 generalize hR : (y.ramps.flatMap fun r => rowS wRamp (raL r)) = R at lrr ⊢
 ((repeat refine Ws ?_);refine W_block ?_; (repeat refine Ws ?_)); refine W_loopS (fun s : Nat × List VObj => [(1, .ptr M.H.length 0), (5, .ptr (M.H.length + 2) 0), (6, .fn (.func 41) [] [.ptr (M.H.length + 2) 0]), (40, ctsV y.carts), (41, vi y.carts.length), (42, vi s.1)]) (fun s => ⟨WM M.H y (rowS wYard [y.sweep] ++ R ++ (y.carts.take s.1).flatMap fun c => rowS wCart (ctL c)) s.2, M.lg⟩) (fun s => y.carts.length - s.1) (fun s => s.1 ≤ y.carts.length) (0, L) (Nat.zero_le _) ⟨rfl, rfl, rfl, rfl, rfl, rfl, trivial⟩ (by simp) ?_
 rintro ⟨i, L⟩ hi
 simp only at hi
 have k2 : -9223372036854775808 ≤ (i : Int) + 1 ∧ (i : Int) + 1 < 9223372036854775808 := by omega
 ((repeat refine Ws ?_);refine W_regionE T_ok ?_; intro Kn hKn)
 rcases Nat.lt_or_ge i y.carts.length with hlt | hge
 ·have k3 : ((i : Int) < (y.carts.length : Int)) = True := eq_true (by omega)
  have hx := map_at (f := ctP) (List.getElem?_eq_getElem hlt)
  have hv := hy.ct _ (List.getElem_mem hlt)
  have key := byF_take (f := fun c => rowS wCart (ctL c)) hlt
  have ll := lc i
  have ls := ctV_short hv
  generalize y.carts[i] = c at hx hv key ls
  generalize ((y.carts.take i).flatMap fun c => rowS wCart (ctL c)) = pre at key ll ⊢
  have hp : (rowS wYard [y.sweep] ++ (R ++ pre)).length ≤ 1000000000 := by rw [List.length_append, List.length_append]; simp only [wYard]; omega
  have hlen : (ctL c).length ≤ 1000000 := by simp [ctL]; omega
  have hrow : ∀ (l : List Int) (L : List VObj), l = ctL c → VC Tryd.prog 41 [vs wCart, intsV l, .ptr (M.H.length + 2) 0] ⟨WM M.H y (rowS wYard [y.sweep] ++ (R ++ pre)) L, M.lg⟩ (fun r M' => M' = ⟨WM M.H y (rowS wYard [y.sweep] ++ (R ++ pre) ++ rowS wCart (ctL c)) L, M.lg⟩ ∧ r = .tup []) := by
   rintro l L rfl
   exact prowW (by simp [wCart]) (by simp [wCart]) hlen hp (ctV_fit hv n1)
  ((simp (maxSteps := 1000000) only [VL,VM,↓VG,reduceIte,reduceCtorEq,zA,zB,zC,zD,zE,zF,zG,zH,zI,zJ, k3]); rw [hKn];clear hKn Kn;simp only [QV,reduceIte,reduceCtorEq,Nat.reduceEqDiff])
  ((repeat refine Ws ?_);refine Wt (by first|rfl|simp only [EV,zF,reduceIte]) ?_)
  (((repeat refine Ws ?_);refine W_skip ?_); simp only [QV,reduceIte,reduceCtorEq,Nat.reduceEqDiff])
  ((repeat refine Ws ?_);refine W_block ?_)
  ((repeat refine Ws ?_);refine W_regionE T_ok ?_; intro Kn hKn)
  ((simp (maxSteps := 1000000) only [VL,VM,↓VG,reduceIte,reduceCtorEq,zA,zB,zC,zD,zE,zF,zG,zH,zI,zJ, hx, WM_len, WM_app, WM_at, WM_set]); rw [hKn];clear hKn Kn;simp only [QV,reduceIte,reduceCtorEq,Nat.reduceEqDiff])
  ((repeat refine Ws ?_);refine W_regionE T_ok ?_; intro Kn hKn)
  by_cases hr : c.ramps = []
  ·have hctl : ctL c = [c.from_, c.until_, c.takes.lo, c.takes.hi, c.grams] := by rw [ctL, hr, List.append_nil]
   simp (maxSteps := 1000000) only [VL,VM,↓VG,reduceIte,reduceCtorEq,zA,zB,zC,zD,zE,zF,zG,zH,zI,zJ, hr, WM_len, WM_app, WM_at]
   apply callf_eq (f := 41) (fn := Tryd.f41) (by kernel_rfl) (by rfl)
   ·exact hrow [c.from_, c.until_, c.takes.lo, c.takes.hi, c.grams] _ hctl.symm
   ((simp (maxSteps := 1000000) only [VL,VM,↓VG,reduceIte,reduceCtorEq,zA,zB,zC,zD,zE,zF,zG,zH,zI,zJ]); rw [hKn];clear hKn Kn;simp only [QV,reduceIte,reduceCtorEq,Nat.reduceEqDiff])
   ((repeat refine Ws ?_);refine W_regionE T_ok ?_; intro Kn hKn)
   ((simp (maxSteps := 1000000) only [VL,VM,↓VG,reduceIte,reduceCtorEq,zA,zB,zC,zD,zE,zF,zG,zH,zI,zJ, k2]); rw [hKn];clear hKn Kn;simp only [QV,reduceIte,reduceCtorEq,Nat.reduceEqDiff])
   refine LoopK.mk (i + 1, L ++ [.obj [vi c.from_, vi c.until_, vi c.takes.lo, vi c.takes.hi, vi c.grams, .p (.sl 1 [])]]) (by simp; omega) (by simp; omega) ⟨rfl, rfl, rfl, rfl, rfl, rfl, trivial⟩ ?_
   rw [key]; try simp
  ·have hb : ((5 + c.ramps.length) * 8 ≤ 140737488355328) = True := eq_true (by omega)
   have he : (List.map intP c.ramps).isEmpty = false := by
    rw [List.isEmpty_map]
    exact List.isEmpty_eq_false_iff.2 hr
   simp (maxSteps := 1000000) only [VL,VM,↓VG,reduceIte,reduceCtorEq,zA,zB,zC,zD,zE,zF,zG,zH,zI,zJ, he, hb, Bool.not_false, WM_len, WM_app, WM_at]
   apply callf_eq (f := 41) (fn := Tryd.f41) (by kernel_rfl) (by rfl)
   ·exact hrow (c.from_ :: c.until_ :: c.takes.lo :: c.takes.hi :: c.grams :: c.ramps) _ rfl
   ((simp (maxSteps := 1000000) only [VL,VM,↓VG,reduceIte,reduceCtorEq,zA,zB,zC,zD,zE,zF,zG,zH,zI,zJ]); rw [hKn];clear hKn Kn;simp only [QV,reduceIte,reduceCtorEq,Nat.reduceEqDiff])
   ((repeat refine Ws ?_);refine W_regionE T_ok ?_; intro Kn hKn)
   ((simp (maxSteps := 1000000) only [VL,VM,↓VG,reduceIte,reduceCtorEq,zA,zB,zC,zD,zE,zF,zG,zH,zI,zJ, k2]); rw [hKn];clear hKn Kn;simp only [QV,reduceIte,reduceCtorEq,Nat.reduceEqDiff])
   refine LoopK.mk (i + 1, L ++ [.obj (ctC c), .clm (5 + c.ramps.length) 1]) (by simp; omega) (by simp; omega) ⟨rfl, rfl, rfl, rfl, rfl, rfl, trivial⟩ ?_
   rw [key]; try simp
 have k3 : ((i : Int) < (y.carts.length : Int)) = False := eq_false (by omega)
 obtain rfl : i = y.carts.length := by omega
 have lcc := lc y.carts.length
 rw [List.take_length] at lcc
 have fe : FitL [(y.carts.length : Int)] := fun n hn => by
  simp only [List.mem_singleton] at hn
  omega
 generalize hC : (y.carts.flatMap fun c => rowS wCart (ctL c)) = C at lcc ⊢
 have hp : (rowS wYard [y.sweep] ++ (R ++ C)).length ≤ 1000000000 := by rw [List.length_append, List.length_append]; simp only [wYard]; omega
 ((simp (maxSteps := 1000000) only [VL,VM,↓VG,reduceIte,reduceCtorEq,zA,zB,zC,zD,zE,zF,zG,zH,zI,zJ, k3, List.take_length, hC]); rw [hKn];clear hKn Kn;simp only [QV,reduceIte,reduceCtorEq,Nat.reduceEqDiff])
 ((repeat refine Ws ?_);refine Wf (by first|rfl|simp only [EV,zF,reduceIte]) ?_)
 (((repeat refine Ws ?_);refine W_exit ?_); simp only [QV,reduceIte,reduceCtorEq,Nat.reduceEqDiff])
 ((repeat refine Ws ?_);refine W_regionE T_ok ?_; intro Kn hKn)
 simp (maxSteps := 1000000) only [VL,VM,↓VG,reduceIte,reduceCtorEq,zA,zB,zC,zD,zE,zF,zG,zH,zI,zJ, WM_y]
 apply callf_eq (f := 41) (fn := Tryd.f41) (by kernel_rfl) (by rfl)
 ·exact prowW (w := wEnd) (l := [(y.carts.length : Int)]) (by simp [wEnd]) (by simp [wEnd]) (by simp) hp fe
 ((simp (maxSteps := 1000000) only [VL,VM,↓VG,reduceIte,reduceCtorEq,zA,zB,zC,zD,zE,zF,zG,zH,zI,zJ]); rw [hKn];clear hKn Kn;simp only [QV,reduceIte,reduceCtorEq,Nat.reduceEqDiff])
 ((repeat refine Ws ?_);refine W_regionE T_ok ?_; intro Kn hKn)
 simp (maxSteps := 1000000) only [VL,VM,↓VG,reduceIte,reduceCtorEq,zA,zB,zC,zD,zE,zF,zG,zH,zI,zJ]
 apply call_eq (f := 44) (fn := Tryd.f44) (by kernel_rfl) (by rfl)
 ·exact strW (by simp [rowS])
 ((simp (maxSteps := 1000000) only [VL,VM,↓VG,reduceIte,reduceCtorEq,zA,zB,zC,zD,zE,zF,zG,zH,zI,zJ]); rw [hKn];clear hKn Kn;simp only [QV,reduceIte,reduceCtorEq,Nat.reduceEqDiff])
 (repeat refine Ws ?_)
 refine W_ret ?_
 try simp only [thenQ, blockQ]
 refine own_ret2t rfl ?_ ?_ (by rfl) (by rfl)
 ·simp only [get_cons, frz, vtup, Nat.reduceEqDiff, if_true, if_false, reduceIte]
  rw [show writeT y = writeS y from if_pos h1, writeS, hR, hC]
  simp [frz]
 ·simp only [get_cons, frz, vtup, Nat.reduceEqDiff, if_true, if_false, reduceIte]
  rw [h1]
end Go.Proofs.YtkipednlefbfpaaDoor.Vm

/- A weaker view of an object's cell. (Vm) -/
namespace Go.Proofs.YtkipednlefbfpaaDoor.Vm
open Go Go.Proofs
section
variable {P : Program} {T : Tab} {cx : Cx} {e : Env} {M : Mem} {D : List Nat} {Q : PQ} {c : Code}
theorem W_nilobj {id off k k0 : Nat} {cs : List VV} (ho : M.H[id]? = some (.obj cs)) (hc : cs[off]? = some (.sf k0 [])) (h : WCode P cx c e ⟨M.H.set id (.obj (cs.set off (.p (.sl k [])))), M.lg⟩ D Q) : WCode P cx c e M D Q := by
 intro G w K a hs
 have i1 := hs.inv
 have hil := (List.getElem?_eq_some_iff.1 ho).1
 have hs2 : ∀ j x, (M.H.set id (.obj (cs.set off (.p (.sl k [])))))[j]? = some x → (j = id ∧ x = .obj (cs.set off (.p (.sl k [])))) ∨ (j ≠ id ∧ M.H[j]? = some x) := fun j x hx => by
  rcases set_get hx with ⟨rfl, rfl, _⟩ | ⟨h1, h2⟩
  ·exact .inl ⟨rfl, rfl⟩
  ·exact .inr ⟨h1, h2⟩
 have hE : Ext w K M.H w K (M.H.set id (.obj (cs.set off (.p (.sl k []))))) := by
  refine ⟨Nat.le_refl _, Szp.refl _, fun b o _ him i ob hi hb => ?_, fun _ _ _ _ => rfl, fun i o hi => ?_⟩
  ·rcases hs2 i ob hi with ⟨rfl, rfl⟩ | ⟨_, h2⟩
   ·rcases him i _ ho hb with e2 | ⟨m, k', e2, _⟩
    ·exact e2.elim
    ·cases e2
   ·exact him i ob h2 hb
  ·by_cases h1 : i = id
   ·subst h1
    rw [ho] at hi
    cases hi
    exact ⟨.obj (cs.set off (.p (.sl k []))), by simp [hil], fun _ _ e => VObj.noConfusion e, rfl⟩
   ·refine ⟨o, by rw [List.getElem?_set_ne (Ne.symm h1)]; exact hi, ?_⟩
    exact objLe_same rfl fun b _ => rfl
 have hI2 : Inv G w K { H := M.H.set id (.obj (cs.set off (.p (.sl k [])))), lg := M.lg } := by
  refine ⟨i1.os, i1.tape, i1.output, i1.size, i1.gB, i1.old, inj_set i1 (by simp) (gone_set ho (fun e => by cases e)), fun i b hi => i1.blk i b (by simpa using hi), fun i o hi => ?_, fun i o hi cc hcc r hr => ?_, fun en hen => ?_, fun i L hi => ?_⟩
  ·rcases hs2 i o hi with ⟨rfl, rfl⟩ | ⟨h1, h2⟩
   ·intro b hb
    obtain ⟨vs, t, q1, q2, q3⟩ := i1.obj i _ ho b hb
    refine ⟨vs, t, q1, by simpa using q2, fun j v cv hv hcv => ?_⟩
    rw [List.getElem?_set] at hcv
    by_cases hj : off = j
    ·subst hj
     have hlt := (List.getElem?_eq_some_iff.1 hc).1
     rw [if_pos rfl, if_pos hlt] at hcv
     cases hcv
     obtain ⟨r1, r2⟩ := q3 off v _ hv hc
     refine ⟨?_, r2⟩
     cases r1 with
     | sf A _ _ h0 => exact .p _ _ (.sl A 0 k 0 0 [] (fun _ _ => undef) (Nat.le_refl _) (by simp [maxLen]) (fun x hx => by cases hx) (fun hx => absurd rfl hx) (fun i x j u hx => by simp at hx) (fun i x j u hx => by simp at hx) (fun i x j u hx => by simp at hx))
    ·rw [if_neg hj] at hcv
     obtain ⟨r1, r2⟩ := q3 j v cv hv hcv
     exact ⟨r1.ext hE (i1.content ho cv (by simp only [contents]; exact List.mem_of_getElem? hcv)), r2⟩
   ·exact (i1.obj i o h2).ext hE (fun _ _ => rfl) (i1.content h2)
  ·simp only [List.length_set]
   rcases hs2 i o hi with ⟨rfl, rfl⟩ | ⟨h1, h2⟩
   ·simp only [contents] at hcc
    rcases List.mem_or_eq_of_mem_set hcc with hm | rfl
    ·exact i1.cl i _ ho cc (by simp only [contents]; exact hm) r hr
    ·simp [refs] at hr
   ·exact i1.cl i o h2 cc hcc r hr
  ·simp only [List.length_set]
   exact i1.lg en hen
  ·rcases hs2 i _ hi with ⟨rfl, e2⟩ | ⟨_, h2⟩
   ·cases e2
   ·exact i1.lpd i L h2
 have hs3 : StOk cx G w K { H := M.H.set id (.obj (cs.set off (.p (.sl k [])))), lg := M.lg } a e D := ⟨hs.fr.ext (M' := { H := M.H.set id (.obj (cs.set off (.p (.sl k [])))), lg := M.lg }) hE, df_ext (M' := { H := M.H.set id (.obj (cs.set off (.p (.sl k [])))), lg := M.lg }) hE hs.df, hI2, (rd_ext (M' := { H := M.H.set id (.obj (cs.set off (.p (.sl k [])))), lg := M.lg }) hE hs.rd).1⟩
 have h2 := h G w _ a hs3
 exact wpIn_mono h2 fun ex a' w' ⟨e', M', K', D', q1, q2, q3, q4⟩ => ⟨e', M', K', D', q1, q2, q3, hE.trans q4⟩
end
end Go.Proofs.YtkipednlefbfpaaDoor.Vm

/- A weaker view of an object's cell, of a fresh slice. (Vm) -/
namespace Go.Proofs.YtkipednlefbfpaaDoor.Vm
open Go Go.Proofs
section
variable {P : Program} {T : Tab} {cx : Cx} {e : Env} {M : Mem} {D : List Nat} {Q : PQ} {c : Code}
theorem W_sfobj {id off k : Nat} {xs : List (List PV)} {cs : List VV} (ho : M.H[id]? = some (.obj cs)) (hc : cs[off]? = some (.sf k xs)) (h : WCode P cx c e ⟨M.H.set id (.obj (cs.set off (.p (.sl k xs)))), M.lg⟩ D Q) : WCode P cx c e M D Q := by
 intro G w K a hs
 have i1 := hs.inv
 have hil := (List.getElem?_eq_some_iff.1 ho).1
 have hs2 : ∀ j x, (M.H.set id (.obj (cs.set off (.p (.sl k xs)))))[j]? = some x → (j = id ∧ x = .obj (cs.set off (.p (.sl k xs)))) ∨ (j ≠ id ∧ M.H[j]? = some x) := fun j x hx => by
  rcases set_get hx with ⟨rfl, rfl, _⟩ | ⟨h1, h2⟩
  ·exact .inl ⟨rfl, rfl⟩
  ·exact .inr ⟨h1, h2⟩
 have hE : Ext w K M.H w K (M.H.set id (.obj (cs.set off (.p (.sl k xs))))) := by
  refine ⟨Nat.le_refl _, Szp.refl _, fun b o _ him i ob hi hb => ?_, fun _ _ _ _ => rfl, fun i o hi => ?_⟩
  ·rcases hs2 i ob hi with ⟨rfl, rfl⟩ | ⟨_, h2⟩
   ·rcases him i _ ho hb with e2 | ⟨m, k', e2, _⟩
    ·exact e2.elim
    ·cases e2
   ·exact him i ob h2 hb
  ·by_cases h1 : i = id
   ·subst h1
    rw [ho] at hi
    cases hi
    exact ⟨.obj (cs.set off (.p (.sl k xs))), by simp [hil], fun _ _ e => VObj.noConfusion e, rfl⟩
   ·refine ⟨o, by rw [List.getElem?_set_ne (Ne.symm h1)]; exact hi, ?_⟩
    exact objLe_same rfl fun b _ => rfl
 have hI2 : Inv G w K { H := M.H.set id (.obj (cs.set off (.p (.sl k xs)))), lg := M.lg } := by
  refine ⟨i1.os, i1.tape, i1.output, i1.size, i1.gB, i1.old, inj_set i1 (by simp) (gone_set ho (fun e => by cases e)), fun i b hi => i1.blk i b (by simpa using hi), fun i o hi => ?_, fun i o hi cc hcc r hr => ?_, fun en hen => ?_, fun i L hi => ?_⟩
  ·rcases hs2 i o hi with ⟨rfl, rfl⟩ | ⟨h1, h2⟩
   ·intro b hb
    obtain ⟨vs, t, q1, q2, q3⟩ := i1.obj i _ ho b hb
    refine ⟨vs, t, q1, by simpa using q2, fun j v cv hv hcv => ?_⟩
    rw [List.getElem?_set] at hcv
    by_cases hj : off = j
    ·subst hj
     have hlt := (List.getElem?_eq_some_iff.1 hc).1
     rw [if_pos rfl, if_pos hlt] at hcv
     cases hcv
     obtain ⟨r1, r2⟩ := q3 off v _ hv hc
     refine ⟨?_, r2⟩
     have r3 := r1.ext hE (i1.content ho _ (by simp only [contents]; exact List.mem_of_getElem? hc))
     cases r3 with
     | sf A _ _ h0 => exact .p _ _ h0
    ·rw [if_neg hj] at hcv
     obtain ⟨r1, r2⟩ := q3 j v cv hv hcv
     exact ⟨r1.ext hE (i1.content ho cv (by simp only [contents]; exact List.mem_of_getElem? hcv)), r2⟩
   ·exact (i1.obj i o h2).ext hE (fun _ _ => rfl) (i1.content h2)
  ·simp only [List.length_set]
   rcases hs2 i o hi with ⟨rfl, rfl⟩ | ⟨h1, h2⟩
   ·simp only [contents] at hcc
    rcases List.mem_or_eq_of_mem_set hcc with hm | rfl
    ·exact i1.cl i _ ho cc (by simp only [contents]; exact hm) r hr
    ·simp [refs] at hr
   ·exact i1.cl i o h2 cc hcc r hr
  ·simp only [List.length_set]
   exact i1.lg en hen
  ·rcases hs2 i _ hi with ⟨rfl, e2⟩ | ⟨_, h2⟩
   ·cases e2
   ·exact i1.lpd i L h2
 have hs3 : StOk cx G w K { H := M.H.set id (.obj (cs.set off (.p (.sl k xs)))), lg := M.lg } a e D := ⟨hs.fr.ext (M' := { H := M.H.set id (.obj (cs.set off (.p (.sl k xs)))), lg := M.lg }) hE, df_ext (M' := { H := M.H.set id (.obj (cs.set off (.p (.sl k xs)))), lg := M.lg }) hE hs.df, hI2, (rd_ext (M' := { H := M.H.set id (.obj (cs.set off (.p (.sl k xs)))), lg := M.lg }) hE hs.rd).1⟩
 have h2 := h G w _ a hs3
 exact wpIn_mono h2 fun ex a' w' ⟨e', M', K', D', q1, q2, q3, q4⟩ => ⟨e', M', K', D', q1, q2, q3, hE.trans q4⟩
end
end Go.Proofs.YtkipednlefbfpaaDoor.Vm
