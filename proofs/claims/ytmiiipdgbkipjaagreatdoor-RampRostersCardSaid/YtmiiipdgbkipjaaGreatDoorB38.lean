/- A part of the proofs about the chapter of the ramps; it states no condition of its own. -/
import Derived.Test.YtmiiipdgbkipjaaGreatDoorB18
import Derived.Test.YtmiiipdgbkipjaaGreatDoorB26
import Derived.Test.YtmiiipdgbkipjaaGreatDoorB30
import Derived.Test.YtmiiipdgbkipjaaGreatDoorB31
import Derived.Test.YtmiiipdgbkipjaaGreatDoorB33
import Derived.Test.YtmiiipdgbkipjaaGreatDoorB36
import Derived.Test.YtmiiipdgbkipjaaGreatDoorB37
set_option linter.unusedVariables false
set_option linter.unusedSimpArgs false
open Int renaming reduceLE → zA, reduceLT → zB, reduceToNat → zC, reduceNeg → zD
open Nat renaming reduceLT → zE, reduceEqDiff → zF, reduceAdd → zG, reduceSub → zH, reduceMul → zI, reduceLeDiff → zJ
/- The program's Write, on values. (Vm) -/
namespace Go.Proofs.YtmiiipdgbkipjaaGreatDoor.Vm
open Go Go.Proofs
def WM (H : List VObj) (y : Ya) (p : By) (L : List VObj) : List VObj := H ++ .obj (yardC y) :: .clm p.length 1 :: .bld tBld tByte (H.length + 1) p :: L
section
variable {H : List VObj} {y : Ya} {p p' : By} {L : List VObj}
theorem WM_app (X : List VObj) : WM H y p L ++ X = WM H y p (L ++ X) := by simp [WM]
theorem WM_y : (WM H y p L)[H.length]? = some (.obj (yardC y)) := by unfold WM; rw [hget0]; rfl
theorem WM_len : (WM H y p L).length = H.length + (3 + L.length) := by simp [WM]; omega
theorem WM_at (k : Nat) : (WM H y p L)[H.length + (3 + k)]? = L[k]? := by
 unfold WM
 rw [hget, show 3 + k = k + 3 by omega]
 rfl
theorem WM_set (k : Nat) (o : VObj) : (WM H y p L).set (H.length + (3 + k)) o = WM H y p (L.set k o) := by
 unfold WM
 rw [hset, show 3 + k = k + 3 by omega]
 rfl
theorem WM_bld : bldH (WM H y p L) (H.length + 2) (H.length + 1) p' = WM H y p' L := by
 unfold bldH WM
 rw [hset, hset]
 rfl
theorem WM_end : bldE (WM H y p L) (H.length + 2) (H.length + 1) p = H ++ .obj (yardC y) :: .clm (p.length + 1) 1 :: .bld tBld tByte (H.length + 1) p :: L := by
 unfold bldE WM
 rw [hset, hset]
 rfl
end
theorem prowW {w : By} {l : List Int} {H : List VObj} {y : Ya} {p : By} {L : List VObj} {lg : List (Nat × Nat)} (hw0 : w ≠ []) (hw : w.length ≤ 1000000) (hl : l.length ≤ 1000000) (hp : p.length ≤ 1000000000) (hf : FitL l) :
  VC Tryz.prog 29 [vs w, intsV l, .ptr (H.length + 2) 0] ⟨WM H y p L, lg⟩ (fun r M' => M' = ⟨WM H y (p ++ rowS w l) L, lg⟩ ∧ r = .tup []) := by
 have h := prow_v w l (H := WM H y p L) (i := H.length + 2) (j := H.length + 1) (pre := p) (lg := lg) (by omega) (by rw [WM_len]; omega) (by rw [WM_len]; omega) hw0 hw hl hp hf
 rw [WM_bld, WM_bld] at h
 exact h
theorem strW {H : List VObj} {y : Ya} {p : By} {L : List VObj} {lg : List (Nat × Nat)} (h0 : p ≠ []) :
  VC Tryz.prog 32 [.ptr (H.length + 2) 0] ⟨WM H y p L, lg⟩ (fun r M' => M' = ⟨H ++ .obj (yardC y) :: .clm (p.length + 1) 1 :: .bld tBld tByte (H.length + 1) p :: L, lg⟩ ∧ r = vs p) := by
 have h := string_v (H := WM H y p L) (i := H.length + 2) (j := H.length + 1) (l := p) (lg := lg) (by unfold WM; rw [hget]; rfl) (by unfold WM; rw [hget]; rfl) h0
 rw [WM_end] at h
 exact h
set_option maxHeartbeats 2000000 in
theorem pwrite_v (y : Ya) (M : Mem) (hn : y.ramps.length ≤ 1000000) (hm : y.carts.length ≤ 1000000) (hl : ∀ c ∈ y.carts, c.ramps.length ≤ 1000000) : VC Tryz.prog 9 [yardV y] M (fun r M' => M' = M ∧ r = .tup [vs (writeT y), vi (yErr y)]) := by
 refine VC_own' T_ok (f := 9) (fn := Tryz.f9) (by kernel_rfl) rfl Tryz.ntmps9 (by rfl) (by rfl) ?_
 ((repeat refine Ws ?_);refine W_regionE T_ok ?_; intro Kn hKn)
 ((simp (maxSteps := 1000000) only [VL,VM,↓VG,reduceIte,reduceCtorEq,zA,zB,zC,zD,zE,zF,zG,zH,zI,zJ]); rw [hKn];clear hKn Kn;simp only [QV,reduceIte,reduceCtorEq,Nat.reduceEqDiff])
 ((repeat refine Ws ?_);refine W_regionE T_ok ?_; intro Kn hKn)
 simp (maxSteps := 1000000) only [VL,VM,↓VG,reduceIte,reduceCtorEq,zA,zB,zC,zD,zE,zF,zG,zH,zI,zJ]
 apply call_eq (f := 28) (fn := Tryz.f28) (by kernel_rfl) (by rfl)
 ·exact check_v y _ hn hm hl
 ((simp (maxSteps := 1000000) only [VL,VM,↓VG,reduceIte,reduceCtorEq,zA,zB,zC,zD,zE,zF,zG,zH,zI,zJ]); rw [hKn];clear hKn Kn;simp only [QV,reduceIte,reduceCtorEq,Nat.reduceEqDiff])
 ((repeat refine Ws ?_);refine W_regionE T_ok ?_; intro Kn hKn)
 by_cases h1 : yErr y = 0
 rotate_left
 ·have k1 : (yErr y = 0) = False := eq_false h1
  ((simp (maxSteps := 1000000) only [VL,VM,↓VG,reduceIte,reduceCtorEq,zA,zB,zC,zD,zE,zF,zG,zH,zI,zJ, k1]); rw [hKn];clear hKn Kn;simp only [QV,reduceIte,reduceCtorEq,Nat.reduceEqDiff])
  ((repeat refine Ws ?_);refine Wt (by first|rfl|simp only [EV,zF,reduceIte]) ?_)
  ((repeat refine Ws ?_);refine W_regionE T_ok ?_; intro Kn hKn)
  ((simp (maxSteps := 1000000) only [VL,VM,↓VG,reduceIte,reduceCtorEq,zA,zB,zC,zD,zE,zF,zG,zH,zI,zJ]); rw [hKn];clear hKn Kn;simp only [QV,reduceIte,reduceCtorEq,Nat.reduceEqDiff])
  (repeat refine Ws ?_)
  refine W_ret ?_
  try simp only [thenQ, blockQ]
  refine own_ret2t rfl ?_ ?_ (by rfl) (by rfl)
  ·simp only [get_cons, frz, vtup, Nat.reduceEqDiff, if_true, if_false, reduceIte]
   rw [show writeT y = [] from if_neg h1]
   rfl
  ·simp only [get_cons, frz, vtup, Nat.reduceEqDiff, if_true, if_false, reduceIte]
 have hy := yErr_ok.1 h1
 have k1 : (yErr y = 0) = True := eq_true h1
 have n1 := hy.n1
 have m1 := hy.m1
 have s0 := hy.s0
 have s1 := hy.s1
 ((simp (maxSteps := 1000000) only [VL,VM,↓VG,reduceIte,reduceCtorEq,zA,zB,zC,zD,zE,zF,zG,zH,zI,zJ, k1]); rw [hKn];clear hKn Kn;simp only [QV,reduceIte,reduceCtorEq,Nat.reduceEqDiff])
 ((repeat refine Ws ?_);refine Wf (by first|rfl|simp only [EV,zF,reduceIte]) ?_)
 (((repeat refine Ws ?_);refine W_skip ?_); simp only [QV,reduceIte,reduceCtorEq,Nat.reduceEqDiff])
 have fs : FitL [y.sweep] := fun n hn => by
  simp only [List.mem_singleton] at hn
  omega
 have l0 := rowS_len (w := wYard) fs
 (repeat refine Ws ?_)
 refine W_allocB T_ok (tE := tByte) t_build rfl (by decide) ?_
 refine W_eqM (M' := ⟨WM M.H y [] [], M.lg⟩) (by simp [WM]) ?_
 simp only [List.length_append, List.length_singleton, Nat.add_assoc, Nat.reduceAdd]
 ((repeat refine Ws ?_);refine W_regionE T_ok ?_; intro Kn hKn)
 ((simp (maxSteps := 1000000) only [VL,VM,↓VG,reduceIte,reduceCtorEq,zA,zB,zC,zD,zE,zF,zG,zH,zI,zJ]); rw [hKn];clear hKn Kn;simp only [QV,reduceIte,reduceCtorEq,Nat.reduceEqDiff])
 have lr : ∀ i, ((y.ramps.take i).flatMap fun r => rowS wRamp (raL r)).length ≤ 300 := fun i => by
  have := byF_len (f := fun r => rowS wRamp (raL r)) (k := 100) (l := y.ramps.take i) fun r hr => raRow_len (hy.ra r (List.mem_of_mem_take hr))
  rw [List.length_take] at this
  omega
 have lc : ∀ i, ((y.carts.take i).flatMap fun c => rowS wCart (ctL c)).length ≤ 1400 := fun i => by
  have := byF_len (f := fun c => rowS wCart (ctL c)) (k := 200) (l := y.carts.take i) fun c hc => ctRow_len (hy.ct c (List.mem_of_mem_take hc)) n1
  rw [List.length_take] at this
  omega
 simp only [wYard, List.length_cons, List.length_nil] at l0
 ((repeat refine Ws ?_);refine W_regionE T_ok ?_; intro Kn hKn)
 simp (maxSteps := 1000000) only [VL,VM,↓VG,reduceIte,reduceCtorEq,zA,zB,zC,zD,zE,zF,zG,zH,zI,zJ, WM_y]
 apply callf_eq (f := 29) (fn := Tryz.f29) (by kernel_rfl) (by rfl)
 ·exact prowW (w := wYard) (l := [y.sweep]) (by simp [wYard]) (by simp [wYard]) (by simp) (by simp) fs
 ((simp (maxSteps := 1000000) only [VL,VM,↓VG,reduceIte,reduceCtorEq,zA,zB,zC,zD,zE,zF,zG,zH,zI,zJ]); rw [hKn];clear hKn Kn;simp only [QV,reduceIte,reduceCtorEq,Nat.reduceEqDiff])
 ((repeat refine Ws ?_);refine W_regionE T_ok ?_; intro Kn hKn)
 ((simp (maxSteps := 1000000) only [VL,VM,↓VG,reduceIte,reduceCtorEq,zA,zB,zC,zD,zE,zF,zG,zH,zI,zJ, WM_y]); rw [hKn];clear hKn Kn;simp only [QV,reduceIte,reduceCtorEq,Nat.reduceEqDiff])
 ((repeat refine Ws ?_);refine W_block ?_; (repeat refine Ws ?_)); refine W_loopS (fun s : Nat × List VObj => [(1, .ptr M.H.length 0), (5, .ptr (M.H.length + 2) 0), (6, .fn (.func 29) [] [.ptr (M.H.length + 2) 0]), (23, rasV y.ramps), (24, vi y.ramps.length), (25, vi s.1)]) (fun s => ⟨WM M.H y (rowS wYard [y.sweep] ++ (y.ramps.take s.1).flatMap fun r => rowS wRamp (raL r)) s.2, M.lg⟩) (fun s => y.ramps.length - s.1) (fun s => s.1 ≤ y.ramps.length) (0, []) (Nat.zero_le _) ⟨rfl, rfl, rfl, rfl, rfl, rfl, trivial⟩ (by simp) ?_
 rintro ⟨i, L⟩ hi
 simp only at hi
 have k2 : -9223372036854775808 ≤ (i : Int) + 1 ∧ (i : Int) + 1 < 9223372036854775808 := by omega
 ((repeat refine Ws ?_);refine W_regionE T_ok ?_; intro Kn hKn)
 rcases Nat.lt_or_ge i y.ramps.length with hlt | hge
 ·have k3 : ((i : Int) < (y.ramps.length : Int)) = True := eq_true (by omega)
  have hx := map_at (f := raP) (List.getElem?_eq_getElem hlt)
  have hv := hy.ra _ (List.getElem_mem hlt)
  have key := byF_take (f := fun r => rowS wRamp (raL r)) hlt
  have ll := lr i
  generalize y.ramps[i] = r at hx hv key
  generalize ((y.ramps.take i).flatMap fun r => rowS wRamp (raL r)) = pre at key ll ⊢
  have hp : (rowS wYard [y.sweep] ++ pre).length ≤ 1000000000 := by rw [List.length_append]; simp only [wYard]; omega
  ((simp (maxSteps := 1000000) only [VL,VM,↓VG,reduceIte,reduceCtorEq,zA,zB,zC,zD,zE,zF,zG,zH,zI,zJ, k3]); rw [hKn];clear hKn Kn;simp only [QV,reduceIte,reduceCtorEq,Nat.reduceEqDiff])
  ((repeat refine Ws ?_);refine Wt (by first|rfl|simp only [EV,zF,reduceIte]) ?_)
  (((repeat refine Ws ?_);refine W_skip ?_); simp only [QV,reduceIte,reduceCtorEq,Nat.reduceEqDiff])
  ((repeat refine Ws ?_);refine W_block ?_)
  ((repeat refine Ws ?_);refine W_regionE T_ok ?_; intro Kn hKn)
  ((simp (maxSteps := 1000000) only [VL,VM,↓VG,reduceIte,reduceCtorEq,zA,zB,zC,zD,zE,zF,zG,zH,zI,zJ, hx, WM_len, WM_app, WM_at, WM_set]); rw [hKn];clear hKn Kn;simp only [QV,reduceIte,reduceCtorEq,Nat.reduceEqDiff])
  ((repeat refine Ws ?_);refine W_regionE T_ok ?_; intro Kn hKn)
  simp (maxSteps := 1000000) only [VL,VM,↓VG,reduceIte,reduceCtorEq,zA,zB,zC,zD,zE,zF,zG,zH,zI,zJ, WM_len, WM_at]
  apply callf_eq (f := 29) (fn := Tryz.f29) (by kernel_rfl) (by rfl)
  ·exact prowW (w := wRamp) (l := raL r) (by simp [wRamp]) (by simp [wRamp]) (by simp [raL]) hp (raV_fit hv)
  ((simp (maxSteps := 1000000) only [VL,VM,↓VG,reduceIte,reduceCtorEq,zA,zB,zC,zD,zE,zF,zG,zH,zI,zJ]); rw [hKn];clear hKn Kn;simp only [QV,reduceIte,reduceCtorEq,Nat.reduceEqDiff])
  ((repeat refine Ws ?_);refine W_regionE T_ok ?_; intro Kn hKn)
  ((simp (maxSteps := 1000000) only [VL,VM,↓VG,reduceIte,reduceCtorEq,zA,zB,zC,zD,zE,zF,zG,zH,zI,zJ, k2]); rw [hKn];clear hKn Kn;simp only [QV,reduceIte,reduceCtorEq,Nat.reduceEqDiff])
  refine LoopK.mk (i + 1, L ++ [.obj [vi r.open_, vi r.shut, vi r.bears]]) (by simp; omega) (by simp; omega) ⟨rfl, rfl, rfl, rfl, rfl, rfl, trivial⟩ ?_
  rw [key]; try simp
 have k3 : ((i : Int) < (y.ramps.length : Int)) = False := eq_false (by omega)
 obtain rfl : i = y.ramps.length := by omega
 ((simp (maxSteps := 1000000) only [VL,VM,↓VG,reduceIte,reduceCtorEq,zA,zB,zC,zD,zE,zF,zG,zH,zI,zJ, k3, List.take_length]); rw [hKn];clear hKn Kn;simp only [QV,reduceIte,reduceCtorEq,Nat.reduceEqDiff])
 ((repeat refine Ws ?_);refine Wf (by first|rfl|simp only [EV,zF,reduceIte]) ?_)
 (((repeat refine Ws ?_);refine W_exit ?_); simp only [QV,reduceIte,reduceCtorEq,Nat.reduceEqDiff])
 have lrr := lr y.ramps.length
 rw [List.take_length] at lrr
 ((repeat refine Ws ?_);refine W_regionE T_ok ?_; intro Kn hKn)
 ((simp (maxSteps := 1000000) only [VL,VM,↓VG,reduceIte,reduceCtorEq,zA,zB,zC,zD,zE,zF,zG,zH,zI,zJ, WM_y]); rw [hKn];clear hKn Kn;simp only [QV,reduceIte,reduceCtorEq,Nat.reduceEqDiff])
 generalize hR : (y.ramps.flatMap fun r => rowS wRamp (raL r)) = R at lrr ⊢
 ((repeat refine Ws ?_);refine W_block ?_; (repeat refine Ws ?_)); refine W_loopS (fun s : Nat × List VObj => [(1, .ptr M.H.length 0), (5, .ptr (M.H.length + 2) 0), (6, .fn (.func 29) [] [.ptr (M.H.length + 2) 0]), (40, ctsV y.carts), (41, vi y.carts.length), (42, vi s.1)]) (fun s => ⟨WM M.H y (rowS wYard [y.sweep] ++ R ++ (y.carts.take s.1).flatMap fun c => rowS wCart (ctL c)) s.2, M.lg⟩) (fun s => y.carts.length - s.1) (fun s => s.1 ≤ y.carts.length) (0, L) (Nat.zero_le _) ⟨rfl, rfl, rfl, rfl, rfl, rfl, trivial⟩ (by simp) ?_
 rintro ⟨i, L⟩ hi
 simp only at hi
 have k2 : -9223372036854775808 ≤ (i : Int) + 1 ∧ (i : Int) + 1 < 9223372036854775808 := by omega
 ((repeat refine Ws ?_);refine W_regionE T_ok ?_; intro Kn hKn)
 rcases Nat.lt_or_ge i y.carts.length with hlt | hge
 ·have k3 : ((i : Int) < (y.carts.length : Int)) = True := eq_true (by omega)
  have hx := map_at (f := ctP) (List.getElem?_eq_getElem hlt)
  have hv := hy.ct _ (List.getElem_mem hlt)
  have key := byF_take (f := fun c => rowS wCart (ctL c)) hlt
  have ll := lc i
  have ls := ctV_short hv
  generalize y.carts[i] = c at hx hv key ls
  generalize ((y.carts.take i).flatMap fun c => rowS wCart (ctL c)) = pre at key ll ⊢
  have hp : (rowS wYard [y.sweep] ++ (R ++ pre)).length ≤ 1000000000 := by rw [List.length_append, List.length_append]; simp only [wYard]; omega
  have hlen : (ctL c).length ≤ 1000000 := by simp [ctL]; omega
  have hrow : ∀ (l : List Int) (L : List VObj), l = ctL c → VC Tryz.prog 29 [vs wCart, intsV l, .ptr (M.H.length + 2) 0] ⟨WM M.H y (rowS wYard [y.sweep] ++ (R ++ pre)) L, M.lg⟩ (fun r M' => M' = ⟨WM M.H y (rowS wYard [y.sweep] ++ (R ++ pre) ++ rowS wCart (ctL c)) L, M.lg⟩ ∧ r = .tup []) := by
   rintro l L rfl
   exact prowW (by simp [wCart]) (by simp [wCart]) hlen hp (ctV_fit hv n1)
  ((simp (maxSteps := 1000000) only [VL,VM,↓VG,reduceIte,reduceCtorEq,zA,zB,zC,zD,zE,zF,zG,zH,zI,zJ, k3]); rw [hKn];clear hKn Kn;simp only [QV,reduceIte,reduceCtorEq,Nat.reduceEqDiff])
  ((repeat refine Ws ?_);refine Wt (by first|rfl|simp only [EV,zF,reduceIte]) ?_)
  (((repeat refine Ws ?_);refine W_skip ?_); simp only [QV,reduceIte,reduceCtorEq,Nat.reduceEqDiff])
  ((repeat refine Ws ?_);refine W_block ?_)
  ((repeat refine Ws ?_);refine W_regionE T_ok ?_; intro Kn hKn)
  ((simp (maxSteps := 1000000) only [VL,VM,↓VG,reduceIte,reduceCtorEq,zA,zB,zC,zD,zE,zF,zG,zH,zI,zJ, hx, WM_len, WM_app, WM_at, WM_set]); rw [hKn];clear hKn Kn;simp only [QV,reduceIte,reduceCtorEq,Nat.reduceEqDiff])
  ((repeat refine Ws ?_);refine W_regionE T_ok ?_; intro Kn hKn)
  by_cases hr : c.ramps = []
  ·have hctl : ctL c = [c.from_, c.until_, c.takes.lo, c.takes.hi, c.grams] := by rw [ctL, hr, List.append_nil]
   simp (maxSteps := 1000000) only [VL,VM,↓VG,reduceIte,reduceCtorEq,zA,zB,zC,zD,zE,zF,zG,zH,zI,zJ, hr, WM_len, WM_app, WM_at]
   apply callf_eq (f := 29) (fn := Tryz.f29) (by kernel_rfl) (by rfl)
   ·exact hrow [c.from_, c.until_, c.takes.lo, c.takes.hi, c.grams] _ hctl.symm
   ((simp (maxSteps := 1000000) only [VL,VM,↓VG,reduceIte,reduceCtorEq,zA,zB,zC,zD,zE,zF,zG,zH,zI,zJ]); rw [hKn];clear hKn Kn;simp only [QV,reduceIte,reduceCtorEq,Nat.reduceEqDiff])
   ((repeat refine Ws ?_);refine W_regionE T_ok ?_; intro Kn hKn)
   ((simp (maxSteps := 1000000) only [VL,VM,↓VG,reduceIte,reduceCtorEq,zA,zB,zC,zD,zE,zF,zG,zH,zI,zJ, k2]); rw [hKn];clear hKn Kn;simp only [QV,reduceIte,reduceCtorEq,Nat.reduceEqDiff])
   refine LoopK.mk (i + 1, L ++ [.obj [vi c.from_, vi c.until_, vi c.takes.lo, vi c.takes.hi, vi c.grams, .p (.sl 1 [])]]) (by simp; omega) (by simp; omega) ⟨rfl, rfl, rfl, rfl, rfl, rfl, trivial⟩ ?_
   rw [key]; try simp
  ·have hb : ((5 + c.ramps.length) * 8 ≤ 140737488355328) = True := eq_true (by omega)
   have he : (List.map intP c.ramps).isEmpty = false := by
    rw [List.isEmpty_map]
    exact List.isEmpty_eq_false_iff.2 hr
   simp (maxSteps := 1000000) only [VL,VM,↓VG,reduceIte,reduceCtorEq,zA,zB,zC,zD,zE,zF,zG,zH,zI,zJ, he, hb, Bool.not_false, WM_len, WM_app, WM_at]
   apply callf_eq (f := 29) (fn := Tryz.f29) (by kernel_rfl) (by rfl)
   ·exact hrow (c.from_ :: c.until_ :: c.takes.lo :: c.takes.hi :: c.grams :: c.ramps) _ rfl
   ((simp (maxSteps := 1000000) only [VL,VM,↓VG,reduceIte,reduceCtorEq,zA,zB,zC,zD,zE,zF,zG,zH,zI,zJ]); rw [hKn];clear hKn Kn;simp only [QV,reduceIte,reduceCtorEq,Nat.reduceEqDiff])
   ((repeat refine Ws ?_);refine W_regionE T_ok ?_; intro Kn hKn)
   ((simp (maxSteps := 1000000) only [VL,VM,↓VG,reduceIte,reduceCtorEq,zA,zB,zC,zD,zE,zF,zG,zH,zI,zJ, k2]); rw [hKn];clear hKn Kn;simp only [QV,reduceIte,reduceCtorEq,Nat.reduceEqDiff])
   refine LoopK.mk (i + 1, L ++ [.obj (ctC c), .clm (5 + c.ramps.length) 1]) (by simp; omega) (by simp; omega) ⟨rfl, rfl, rfl, rfl, rfl, rfl, trivial⟩ ?_
   rw [key]; try simp
 have k3 : ((i : Int) < (y.carts.length : Int)) = False := eq_false (by omega)
 obtain rfl : i = y.carts.length := by omega
 have lcc := lc y.carts.length
 rw [List.take_length] at lcc
 have fe : FitL [(y.carts.length : Int)] := fun n hn => by
  simp only [List.mem_singleton] at hn
  omega
 generalize hC : (y.carts.flatMap fun c => rowS wCart (ctL c)) = C at lcc ⊢
 have hp : (rowS wYard [y.sweep] ++ (R ++ C)).length ≤ 1000000000 := by rw [List.length_append, List.length_append]; simp only [wYard]; omega
 ((simp (maxSteps := 1000000) only [VL,VM,↓VG,reduceIte,reduceCtorEq,zA,zB,zC,zD,zE,zF,zG,zH,zI,zJ, k3, List.take_length, hC]); rw [hKn];clear hKn Kn;simp only [QV,reduceIte,reduceCtorEq,Nat.reduceEqDiff])
 ((repeat refine Ws ?_);refine Wf (by first|rfl|simp only [EV,zF,reduceIte]) ?_)
 (((repeat refine Ws ?_);refine W_exit ?_); simp only [QV,reduceIte,reduceCtorEq,Nat.reduceEqDiff])
 ((repeat refine Ws ?_);refine W_regionE T_ok ?_; intro Kn hKn)
 simp (maxSteps := 1000000) only [VL,VM,↓VG,reduceIte,reduceCtorEq,zA,zB,zC,zD,zE,zF,zG,zH,zI,zJ, WM_y]
 apply callf_eq (f := 29) (fn := Tryz.f29) (by kernel_rfl) (by rfl)
 ·exact prowW (w := wEnd) (l := [(y.carts.length : Int)]) (by simp [wEnd]) (by simp [wEnd]) (by simp) hp fe
 ((simp (maxSteps := 1000000) only [VL,VM,↓VG,reduceIte,reduceCtorEq,zA,zB,zC,zD,zE,zF,zG,zH,zI,zJ]); rw [hKn];clear hKn Kn;simp only [QV,reduceIte,reduceCtorEq,Nat.reduceEqDiff])
 ((repeat refine Ws ?_);refine W_regionE T_ok ?_; intro Kn hKn)
 simp (maxSteps := 1000000) only [VL,VM,↓VG,reduceIte,reduceCtorEq,zA,zB,zC,zD,zE,zF,zG,zH,zI,zJ]
 apply call_eq (f := 32) (fn := Tryz.f32) (by kernel_rfl) (by rfl)
 ·exact strW (by simp [rowS])
 ((simp (maxSteps := 1000000) only [VL,VM,↓VG,reduceIte,reduceCtorEq,zA,zB,zC,zD,zE,zF,zG,zH,zI,zJ]); rw [hKn];clear hKn Kn;simp only [QV,reduceIte,reduceCtorEq,Nat.reduceEqDiff])
 (repeat refine Ws ?_)
 refine W_ret ?_
 try simp only [thenQ, blockQ]
 refine own_ret2t rfl ?_ ?_ (by rfl) (by rfl)
 ·simp only [get_cons, frz, vtup, Nat.reduceEqDiff, if_true, if_false, reduceIte]
  rw [show writeT y = writeS y from if_pos h1, writeS, hR, hC]
  simp [frz]
 ·simp only [get_cons, frz, vtup, Nat.reduceEqDiff, if_true, if_false, reduceIte]
  rw [h1]
end Go.Proofs.YtmiiipdgbkipjaaGreatDoor.Vm

/- Plain: what is written is read again, and what is read is what would be written. -/
namespace Go.Proofs.YtmiiipdgbkipjaaGreatDoor
open Go
theorem len_nd {k u : Nat} (h : u < 10 ^ (k + 1)) : (Lib.decDigits u).length ≤ k + 1 := by
 induction k generalizing u with
 | zero => rw [Lib.decDigits, dif_pos (by simpa using h)]; simp
 | succ k ih =>
  rw [Lib.decDigits]
  split
  ·simp
  ·have := ih (u := u / 10) (by rw [Nat.div_lt_iff_lt_mul (by omega)]; rw [← Nat.pow_succ]; exact h)
   simp only [List.length_append, List.length_singleton]
   omega
theorem itoa_short {n : Int} (h0 : 0 ≤ n) (h1 : n ≤ 1000000) : (Lib.itoa n).length ≤ 7 := by
 rw [Lib.itoa, if_neg (by omega)]
 exact len_nd (k := 6) (by omega)
theorem digits_ge (u : Nat) : ∀ b ∈ Lib.decDigits u, 48 ≤ b.toNat := by
 induction u using Nat.strongRecOn with
 | ind u ih =>
  intro b hb
  rw [Lib.decDigits] at hb
  split at hb
  ·rename_i h
   simp only [List.mem_singleton] at hb
   rw [hb, u8_of u h]; omega
  ·rename_i h
   rcases List.mem_append.1 hb with hb | hb
   ·exact ih (u / 10) (by omega) b hb
   ·simp only [List.mem_singleton] at hb
    rw [hb, u8_of _ (by omega)]; omega
theorem itoa_ge {n : Int} (h0 : 0 ≤ n) : ∀ b ∈ Lib.itoa n, 48 ≤ b.toNat := by
 rw [Lib.itoa, if_neg (by omega)]
 exact digits_ge _
theorem itoa_clean {n : Int} (h0 : 0 ≤ n) {c : UInt8} (hc : c.toNat < 48) : c ∉ Lib.itoa n := fun h => by
 have := itoa_ge h0 c h
 omega
def SmL (l : List Int) : Prop := ∀ n ∈ l, 0 ≤ n ∧ n ≤ 1000000
theorem numsS_short : ∀ {l : List Int}, SmL l → (numsS l).length ≤ 8 * l.length
 | [], _ => by simp [numsS]
 | n :: l, h => by
  have h1 := itoa_short (h n (by simp)).1 (h n (by simp)).2
  have h2 := numsS_short (l := l) fun k hk => h k (by simp [hk])
  simp only [numsS, List.flatMap_cons, List.length_append, List.length_cons] at h2 ⊢
  omega
theorem raV_sm {r : Ra} (h : RaV r) : SmL (raL r) := by
 intro n hn
 have := h.o0; have := h.os; have := h.s1; have := h.b0; have := h.b1
 simp only [raL, List.mem_cons, List.not_mem_nil, or_false] at hn
 omega
theorem ctV_sm {nr : Nat} {c : Ct} (h : CtV nr c) (hn : nr ≤ 3) : SmL (ctL c) := by
 intro n hm
 have := h.f0; have := h.fu; have := h.u1; have := h.l0; have := h.lh; have := h.h1; have := h.g0; have := h.g1
 simp only [ctL, List.cons_append, List.nil_append, List.mem_cons, List.not_mem_nil, or_false] at hm
 rcases hm with h1 | h1 | h1 | h1 | h1 | h1
 ·omega
 ·omega
 ·omega
 ·omega
 ·omega
 ·have := h.r n h1; omega
theorem rowS_short {w : By} {l : List Int} (h : SmL l) : (rowS w l).length ≤ w.length + 8 * l.length + 1 := by
 have := numsS_short h
 simp only [rowS, List.length_append, List.length_singleton]
 omega
theorem writeS_len {y : Ya} (h : YaV y) : (writeS y).length ≤ 1500 := by
 have n1 := h.n1
 have m1 := h.m1
 have a1 : (rowS wYard [y.sweep]).length ≤ 13 := rowS_short (w := wYard) fun n hn => by
  simp only [List.mem_singleton] at hn; have := h.s0; have := h.s1; omega
 have a4 : (rowS wEnd [(y.carts.length : Int)]).length ≤ 12 := rowS_short (w := wEnd) fun n hn => by
  simp only [List.mem_singleton] at hn; omega
 have a2 : (y.ramps.flatMap fun r => rowS wRamp (raL r)).length ≤ 29 * y.ramps.length := byF_len fun r hr => by
  have := rowS_short (w := wRamp) (raV_sm (h.ra r hr))
  simpa [raL, wRamp] using this
 have a3 : (y.carts.flatMap fun c => rowS wCart (ctL c)).length ≤ 69 * y.carts.length := byF_len fun c hc => by
  have h1 := rowS_short (w := wCart) (ctV_sm (h.ct c hc) n1)
  have h2 := ctV_short (h.ct c hc)
  have h3 : (ctL c).length = 5 + c.ramps.length := by simp [ctL]; omega
  have h4 : wCart.length = 4 := rfl
  omega
 simp only [writeS, List.length_append]
 omega
theorem rsRead_ok (s : By) : (rsRead s).1 = y0 ∨ YaV (rsRead s).1 := by
 unfold rsRead
 split
 ·exact .inl rfl
 ·split
  ·exact .inl rfl
  ·unfold rsEnd
   split
   ·exact .inl rfl
   ·split
    ·rename_i h; exact .inr (yErr_ok.1 h)
    ·exact .inl rfl
theorem rsRead_short (s : By) : (rsRead s).1.ramps.length ≤ 3 ∧ (rsRead s).1.carts.length ≤ 7 ∧ ∀ c ∈ (rsRead s).1.carts, c.ramps.length ≤ 3 := by
 rcases rsRead_ok s with h | h
 ·rw [h]; exact ⟨by decide, by decide, fun c hc => by simp [y0] at hc⟩
 ·have := h.n1
  exact ⟨this, h.m1, fun c hc => by have := ctV_short (h.ct c hc); omega⟩
theorem cut_nums : ∀ {w : By} {l : List Int}, (32 : UInt8) ∉ w → SmL l → cutL 32 (w ++ numsS l) = w :: l.map Lib.itoa
 | w, [], hw, _ => by simp only [numsS, List.flatMap_nil, List.append_nil, List.map_nil]; exact cutL_none _ hw
 | w, n :: l, hw, h => by
  have h0 := (h n (by simp)).1
  have ih := cut_nums (w := Lib.itoa n) (l := l) (itoa_clean h0 (by decide)) fun k hk => h k (by simp [hk])
  simp only [numsS, List.flatMap_cons, List.cons_append] at ih ⊢
  rw [cutL_app 32 _ hw, ih, List.map_cons]
theorem numsR_itoa : ∀ {l : List Int}, SmL l → numsR 7 (l.map Lib.itoa) = some l
 | [], _ => rfl
 | n :: l, h => by
  obtain ⟨h0, h1⟩ := h n (by simp)
  simp only [List.map_cons, numsR, numR_itoa h0 (itoa_short h0 h1), numsR_itoa (l := l) fun k hk => h k (by simp [hk])]
theorem parse_row {w : By} {l : List Int} (hw : (32 : UInt8) ∉ w) (h : SmL l) : parseR 7 (w ++ numsS l) = some (w, l) := by
 unfold parseR
 rw [cut_nums hw h]
 simp only [List.drop_succ_cons, List.drop_zero, numsR_itoa h, Option.map_some, List.headD_cons]
theorem nums_clean {l : List Int} (h : SmL l) : (10 : UInt8) ∉ numsS l := by
 intro hm
 obtain ⟨n, hn, hm⟩ := List.mem_flatMap.1 hm
 rcases List.mem_cons.1 hm with e | e
 ·exact absurd e (by decide)
 ·exact itoa_clean (h n hn).1 (by decide) e
theorem row_clean {w : By} {l : List Int} (hw : (10 : UInt8) ∉ w) (h : SmL l) : (10 : UInt8) ∉ w ++ numsS l := by
 intro hm
 rcases List.mem_append.1 hm with e | e
 ·exact hw e
 ·exact nums_clean h e
theorem cut_rows : ∀ {l : List By}, (∀ r ∈ l, (10 : UInt8) ∉ r) → cutL 10 (l.flatMap (· ++ [10])) = l ++ [[]]
 | [], _ => rfl
 | r :: l, h => by
  rw [List.flatMap_cons, List.append_assoc, List.singleton_append, cutL_app 10 _ (h r (by simp)), cut_rows (l := l) fun k hk => h k (by simp [hk]), List.cons_append]
def rw1 (w : By) (l : List Int) : By := w ++ numsS l
def rowsL (y : Ya) : List By := rw1 wYard [y.sweep] :: ((y.ramps.map fun r => rw1 wRamp (raL r)) ++ (y.carts.map fun c => rw1 wCart (ctL c)) ++ [rw1 wEnd [(y.carts.length : Int)]])
theorem writeS_rows (y : Ya) : writeS y = (rowsL y).flatMap (· ++ [10]) := by
 simp only [rowsL, List.flatMap_cons, List.flatMap_append, List.flatMap_nil, List.flatMap_map, writeS, rowS, rw1, List.append_assoc, List.append_nil]
theorem rowsL_clean {y : Ya} (h : YaV y) : ∀ r ∈ rowsL y, (10 : UInt8) ∉ r := by
 intro r hr
 have n1 := h.n1
 have m1 := h.m1
 simp only [rowsL, List.mem_cons, List.mem_append, List.mem_map, List.not_mem_nil, or_false] at hr
 rcases hr with rfl | (⟨x, hx, rfl⟩ | ⟨x, hx, rfl⟩) | rfl
 ·exact row_clean (by decide) fun n hn => by simp only [List.mem_singleton] at hn; have := h.s0; have := h.s1; omega
 ·exact row_clean (by decide) (raV_sm (h.ra x hx))
 ·exact row_clean (by decide) (ctV_sm (h.ct x hx) n1)
 ·exact row_clean (by decide) fun n hn => by simp only [List.mem_singleton] at hn; omega
theorem raOf_raL (r : Ra) : raOf (raL r) = r := rfl
theorem ctOf_ctL (c : Ct) : ctOf (ctL c) = c := rfl
theorem run_ramps : ∀ {rs : List Ra} {i : Nat} {y : Ya}, 1 ≤ i → y.carts = [] → (∀ r ∈ rs, RaV r) → rsRun i (y, false) (rs.map fun r => rw1 wRamp (raL r)) = .inr ({ y with ramps := y.ramps ++ rs }, false)
 | [], i, y, _, _, _ => by simp [rsRun]
 | r :: rs, i, y, hi, hc, h => by
  have e : rsStep i (y, false) (rw1 wRamp (raL r)) = some ({ y with ramps := y.ramps ++ [r] }, false) := by
   unfold rsStep
   rw [rw1, parse_row (by decide) (raV_sm (h r (by simp)))]
   simp only [Bool.false_eq_true, if_false, rsPut]
   rw [if_neg (by omega), if_pos ⟨trivial, rfl, by rw [hc]; rfl⟩, raOf_raL]
  rw [List.map_cons, rsRun, e]
  simp only
  rw [run_ramps (rs := rs) (y := { y with ramps := y.ramps ++ [r] }) (by omega) hc fun k hk => h k (by simp [hk])]
  simp
theorem run_carts {nr : Nat} (hn : nr ≤ 3) : ∀ {cs : List Ct} {i : Nat} {y : Ya}, 1 ≤ i → (∀ c ∈ cs, CtV nr c) → rsRun i (y, false) (cs.map fun c => rw1 wCart (ctL c)) = .inr ({ y with carts := y.carts ++ cs }, false)
 | [], i, y, _, _ => by simp [rsRun]
 | c :: cs, i, y, hi, h => by
  have hl : (5 : Nat) ≤ (ctL c).length := by simp only [ctL, List.length_append, List.length_cons, List.length_nil]; omega
  have hne : ¬ (wCart = wRamp ∧ (ctL c).length = 3 ∧ y.carts.length = 0) := fun hh => absurd hh.1 (by decide)
  have e : rsStep i (y, false) (rw1 wCart (ctL c)) = some ({ y with carts := y.carts ++ [c] }, false) := by
   unfold rsStep
   rw [rw1, parse_row (by decide) (ctV_sm (h c (by simp)) hn)]
   simp only [Bool.false_eq_true, if_false, rsPut]
   rw [if_neg (by omega), if_neg hne, if_pos ⟨trivial, hl⟩, ctOf_ctL]
  rw [List.map_cons, rsRun, e]
  simp only
  rw [run_carts hn (by omega) fun k hk => h k (by simp [hk])]
  simp
theorem rsRead_write {y : Ya} (h : YaV y) : rsRead (writeS y) = (y, 0, 0) := by
 have n1 := h.n1
 have m1 := h.m1
 have hcut : cutL 10 (writeS y) = rowsL y ++ [[]] := by rw [writeS_rows, cut_rows (rowsL_clean h)]
 have e0 : rsStep 0 (y0, false) (rw1 wYard [y.sweep]) = some (⟨[], [], y.sweep⟩, false) := by
  unfold rsStep
  rw [rw1, parse_row (by decide) fun n hn => by simp only [List.mem_singleton] at hn; have := h.s0; have := h.s1; omega]
  simp only [Bool.false_eq_true, if_false, rsPut]
  rw [if_pos trivial, if_pos ⟨trivial, rfl⟩]
  rfl
 have e9 : ∀ i : Nat, 1 ≤ i → rsStep i (y, false) (rw1 wEnd [(y.carts.length : Int)]) = some (y, true) := fun i hi => by
  have hne : ¬ (wEnd = wRamp ∧ [(y.carts.length : Int)].length = 3 ∧ y.carts.length = 0) := fun hh => absurd hh.1 (by decide)
  have hne2 : ¬ (wEnd = wCart ∧ 5 ≤ [(y.carts.length : Int)].length) := fun hh => absurd hh.1 (by decide)
  unfold rsStep
  rw [rw1, parse_row (by decide) fun n hn => by simp only [List.mem_singleton] at hn; omega]
  simp only [Bool.false_eq_true, if_false, rsPut]
  rw [if_neg (by omega), if_neg hne, if_neg hne2, if_pos ⟨trivial, rfl⟩]
  exact if_pos rfl
 have hrun : rsRun 0 (y0, false) (rowsL y) = .inr (y, true) := by
  rw [rowsL, rsRun, e0]
  simp only
  rw [rsRun_app, rsRun_app, run_ramps (by omega) rfl h.ra]
  simp only
  rw [run_carts n1 (by omega) h.ct]
  simp only [List.nil_append]
  rw [rsRun, e9 _ (by omega)]
  rfl
 unfold rsRead
 rw [if_neg (by have := writeS_len h; omega), hcut]
 have ht : (rowsL y ++ [[]]).take ((rowsL y ++ [[]]).length - 1) = rowsL y := by simp
 rw [ht, hrun]
 simp only [rsEnd]
 rw [if_neg (by simp), if_pos (yErr_ok.2 h)]
theorem nums_join : ∀ {ws : List By} {l : List Int}, numsR 7 ws = some l → ws.flatMap (32 :: ·) = numsS l
 | [], l, h => by cases h; rfl
 | w :: ws, l, h => by
  simp only [numsR] at h
  split at h
  ·rename_i n k h1 h2
   cases h
   rw [List.flatMap_cons, nums_join h2, (numR_some h1).2.1]
   simp only [numsS, List.flatMap_cons]
  ·cases h
theorem join_flat (c : UInt8) : ∀ (p : By) (ps : List By), joinL c (p :: ps) = p ++ ps.flatMap (c :: ·)
 | p, [] => by simp [joinL]
 | p, q :: ps => by
  rw [joinL, join_flat c q ps, List.flatMap_cons]
  ·simp
  ·intro e; cases e
theorem row_of {s w : By} {l : List Int} (h : parseR 7 s = some (w, l)) : rowS w l = s ++ [10] := by
 unfold parseR at h
 obtain ⟨k, h1, h2⟩ := Option.map_eq_some_iff.1 h
 cases h2
 have hj := join_cut 32 s
 cases hc : cutL 32 s with
 | nil => exact absurd hc (cutL_ne _ _)
 | cons p ps =>
  rw [hc] at h1 hj
  rw [join_flat, nums_join (by simpa using h1)] at hj
  rw [rowS, List.headD_cons, hj]
def soFar (y : Ya) (b : Bool) : By := rowS wYard [y.sweep] ++ (y.ramps.flatMap fun r => rowS wRamp (raL r)) ++ (y.carts.flatMap fun c => rowS wCart (ctL c)) ++ (if b then rowS wEnd [(y.carts.length : Int)] else [])
theorem l1 {l : List Int} (h : l.length = 1) : [l.getD 0 0] = l := by
 match l, h with
 | [a], _ => rfl
theorem l3 {l : List Int} (h : l.length = 3) : raL (raOf l) = l := by
 match l, h with
 | [a, b, c], _ => rfl
theorem l5 {l : List Int} (h : 5 ≤ l.length) : ctL (ctOf l) = l := by
 match l, h with
 | a :: b :: c :: d :: e :: r, _ => rfl
theorem put_far {i : Nat} {y y' : Ya} {b : Bool} {w : By} {l : List Int} (hi : 1 ≤ i) (h : rsPut i y w l = some (y', b)) : soFar y' b = soFar y false ++ rowS w l := by
 unfold rsPut at h
 rw [if_neg (by omega)] at h
 split at h
 ·rename_i hc
  obtain ⟨rfl, h3, h0⟩ := hc
  cases h
  have h0' : y.carts = [] := List.eq_nil_of_length_eq_zero h0
  simp [soFar, h0', l3 h3]
 ·split at h
  ·rename_i hc
   obtain ⟨rfl, h5⟩ := hc
   cases h
   simp [soFar, l5 h5]
  ·split at h
   ·rename_i hc
    obtain ⟨rfl, h1⟩ := hc
    split at h
    ·rename_i he
     cases h
     have := l1 h1
     rw [he] at this
     simp [soFar, this]
    ·cases h
   ·cases h
theorem step_far {i : Nat} {st st' : Ya × Bool} {row : By} (hi : 1 ≤ i) (h : rsStep i st row = some st') : soFar st'.1 st'.2 = soFar st.1 st.2 ++ (row ++ [10]) := by
 unfold rsStep at h
 split at h
 ·cases h
 ·rename_i w l hp
  split at h
  ·cases h
  ·rename_i hb
   have hb' : st.2 = false := by simpa using hb
   rw [hb', ← row_of hp]
   exact put_far (b := st'.2) hi h
theorem run_far : ∀ {rows : List By} {i : Nat} {st st' : Ya × Bool}, 1 ≤ i → rsRun i st rows = .inr st' → soFar st'.1 st'.2 = soFar st.1 st.2 ++ rows.flatMap (· ++ [10])
 | [], i, st, st', _, h => by cases h; simp
 | r :: rows, i, st, st', hi, h => by
  rw [rsRun] at h
  cases hs : rsStep i st r with
  | none => rw [hs] at h; cases h
  | some s1 =>
   rw [hs] at h
   rw [run_far (by omega) h, step_far hi hs, List.flatMap_cons, List.append_assoc]
theorem join_end (c : UInt8) : ∀ (l : List By), joinL c (l ++ [[]]) = l.flatMap (· ++ [c])
 | [] => rfl
 | [p] => by simp [joinL]
 | p :: q :: l => by
  rw [List.cons_append, List.cons_append, joinL, ← List.cons_append, join_end c (q :: l)]
  ·simp
  ·intro e; cases e
theorem rsRead_back {s : By} {z : Ya} {a : Int} (h : rsRead s = (z, a, 0)) : YaV z ∧ writeS z = s := by
 unfold rsRead at h
 split at h
 ·cases h
 ·split at h
  ·cases h
  ·rename_i st hr
   unfold rsEnd at h
   split at h
   ·cases h
   ·rename_i hc
    split at h
    ·rename_i hy
     cases h
     refine ⟨yErr_ok.1 hy, ?_⟩
     have hb : st.2 = true := by
      cases hb : st.2 with
      | true => rfl
      | false => exact absurd (.inl hb) hc
     have hlast : (cutL 10 s).getD ((cutL 10 s).length - 1) [] = [] := by
      refine Decidable.byContradiction fun hh => hc (.inr hh)
     have hne := cutL_ne 10 s
     have hpos := List.length_pos_iff.2 hne
     have hsp : cutL 10 s = (cutL 10 s).take ((cutL 10 s).length - 1) ++ [[]] := by
      have h1 : (cutL 10 s)[(cutL 10 s).length - 1]'(by omega) = [] := by
       rw [← hlast, List.getD_eq_getElem?_getD, List.getElem?_eq_getElem (by omega)]; rfl
      have h2 := List.take_succ_eq_append_getElem (l := cutL 10 s) (i := (cutL 10 s).length - 1) (by omega)
      rw [h1, Nat.sub_add_cancel hpos, List.take_length] at h2
      exact h2
     generalize hrows : (cutL 10 s).take ((cutL 10 s).length - 1) = rows at hr hsp
     have hs : s = rows.flatMap (· ++ [10]) := by rw [← join_cut 10 s, hsp, join_end]
     have hfar : soFar st.1 st.2 = rows.flatMap (· ++ [10]) := by
      cases rows with
      | nil => cases hr; cases hb
      | cons r rows =>
       rw [rsRun] at hr
       cases hst : rsStep 0 (y0, false) r with
       | none => rw [hst] at hr; cases hr
       | some s1 =>
        rw [hst] at hr
        have h1 := run_far (by omega) hr
        rw [h1, List.flatMap_cons]
        congr 1
        unfold rsStep at hst
        split at hst
        ·cases hst
        ·rename_i w l hp
         rw [← row_of hp]
         simp only [Bool.false_eq_true, if_false, rsPut, if_true] at hst
         split at hst
         ·rename_i hw
          obtain ⟨rfl, hl⟩ := hw
          cases hst
          have e1 := l1 hl
          simp only [List.getD_eq_getElem?_getD] at e1
          simp [soFar, y0, e1]
         ·cases hst
     rw [hb] at hfar
     rw [hs, ← hfar]
     simp [soFar, writeS]
    ·rename_i hy
     exact absurd (congrArg (fun x => x.2.2) h) hy
end Go.Proofs.YtmiiipdgbkipjaaGreatDoor

/- The law of the tape: what is written is read again, and what is read is what would be written. (Vm) -/
namespace Go.Proofs.YtmiiipdgbkipjaaGreatDoor.Vm
open Go Go.Proofs
theorem DH_tl (M : Mem) (u : Int) (L : List VObj) : DH (M.H ++ [.dead]) M.H.length u L = M.H ++ (.obj [uv u] :: L) := by
 unfold DH
 rw [List.append_assoc]
 have := hset0 M.H ([.dead] ++ L) (.obj [uv u])
 rw [this]
 rfl
theorem _root_.Go.Proofs.YtmiiipdgbkipjaaGreatDoor.YaV.sizes {y : Ya} (h : YaV y) : y.ramps.length ≤ 1000000 ∧ y.carts.length ≤ 1000000 ∧ ∀ c ∈ y.carts, c.ramps.length ≤ 1000000 := by
 have := h.n1; have := h.m1
 exact ⟨by omega, by omega, fun c hc => by have := ctV_short (h.ct c hc); omega⟩
theorem writeT_ok {y : Ya} (h : YaV y) : writeT y = writeS y := if_pos (yErr_ok.2 h)
attribute [local irreducible] castF castU fromF fromU oneF oneU yardS
set_option maxHeartbeats 8000000 in
set_option maxRecDepth 100000 in
theorem tape_law_v (xs : List Int) (s : By) (M : Mem) (hl : xs.length ≤ maxLen) (hs : s.length ≤ 9223372036854775807) : VC Tryz.prog 4 [intsV xs, vs s] M (fun r M' => M' = M ∧ r = vb true) := by
 refine VC_own' T_ok (f := 4) (fn := Tryz.f4) (by kernel_rfl) rfl Tryz.ntmps4 (by rfl) (by rfl) ?_
 ((repeat refine Ws ?_);refine W_regionE T_ok ?_; intro Kn hKn)
 ((simp (maxSteps := 1000000) only [VL,VM,↓VG,reduceIte,reduceCtorEq,zA,zB,zC,zD,zE,zF,zG,zH,zI,zJ]); rw [hKn];clear hKn Kn;simp only [QV,reduceIte,reduceCtorEq,Nat.reduceEqDiff])
 ((repeat refine Ws ?_);refine W_regionE T_ok ?_; intro Kn hKn)
 by_cases hbig : 700 < s.length
 ·have k1 : ((700 : Int) < (s.length : Int)) = True := eq_true (by omega)
  ((simp (maxSteps := 1000000) only [VL,VM,↓VG,reduceIte,reduceCtorEq,zA,zB,zC,zD,zE,zF,zG,zH,zI,zJ, tx_size, k1]); rw [hKn];clear hKn Kn;simp only [QV,reduceIte,reduceCtorEq,Nat.reduceEqDiff])
  ((repeat refine Ws ?_);refine Wt (by first|rfl|simp only [EV,zF,reduceIte]) ?_)
  ((repeat refine Ws ?_);refine W_regionE T_ok ?_; intro Kn hKn)
  simp (maxSteps := 1000000) only [VL,VM,↓VG,reduceIte,reduceCtorEq,zA,zB,zC,zD,zE,zF,zG,zH,zI,zJ]
  apply call_eq (f := 6) (fn := Tryz.f6) (by kernel_rfl) (by rfl)
  ·exact awake_v _
  ((simp (maxSteps := 1000000) only [VL,VM,↓VG,reduceIte,reduceCtorEq,zA,zB,zC,zD,zE,zF,zG,zH,zI,zJ]); rw [hKn];clear hKn Kn;simp only [QV,reduceIte,reduceCtorEq,Nat.reduceEqDiff])
  (repeat refine Ws ?_)
  refine W_ret ?_
  try simp only [thenQ, blockQ]
  refine own_ret10 rfl ?_ (by rfl)
  simp only [get_cons, frz, vtup, Nat.reduceEqDiff, if_true, if_false, reduceIte]
 have k1 : ((700 : Int) < (s.length : Int)) = False := eq_false (by omega)
 ((simp (maxSteps := 1000000) only [VL,VM,↓VG,reduceIte,reduceCtorEq,zA,zB,zC,zD,zE,zF,zG,zH,zI,zJ, tx_size, k1]); rw [hKn];clear hKn Kn;simp only [QV,reduceIte,reduceCtorEq,Nat.reduceEqDiff])
 ((repeat refine Ws ?_);refine Wf (by first|rfl|simp only [EV,zF,reduceIte]) ?_)
 (((repeat refine Ws ?_);refine W_skip ?_); simp only [QV,reduceIte,reduceCtorEq,Nat.reduceEqDiff])
 ((repeat refine Ws ?_);refine W_regionE T_ok ?_; intro Kn hKn)
 simp (maxSteps := 1000000) only [VL,VM,↓VG,reduceIte,reduceCtorEq,zA,zB,zC,zD,zE,zF,zG,zH,zI,zJ]
 apply call_eq (f := 8) (fn := Tryz.f8) (by kernel_rfl) (by rfl)
 ·exact dieOf_v xs _ hl
 obtain ⟨H0, hH0⟩ : ∃ H0, H0 = M.H ++ [VObj.dead] := ⟨_, rfl⟩
 obtain ⟨d, hdd⟩ : ∃ d, d = M.H.length := ⟨_, rfl⟩
 have hd : d < H0.length := by rw [hH0, hdd]; simp
 have hlen0 : H0.length = M.H.length + 1 := by rw [hH0]; simp
 have tail : ∀ u L, DH H0 d u L = M.H ++ (.obj [uv u] :: L) := fun u L => by
  rw [hH0, hdd]
  exact DH_tl M u L
 rw [← hH0, ← hdd]
 generalize dieU xs = u0
 simp (maxSteps := 1000000) only [VL,VM,↓VG,reduceIte,reduceCtorEq,zA,zB,zC,zD,zE,zF,zG,zH,zI,zJ]
 apply call_eq (f := 7) (fn := Tryz.f7) (by kernel_rfl) (by rfl)
 ·exact yardOf_d hd u0 M.lg 3 7 480 (by omega) (by omega) (by omega)
 have hm := (yardS_made (u := u0) (A := 3) (B := 7) (m := 480) (by omega) (by omega) (by omega)).V (by omega) (by omega) (by omega)
 generalize yardS u0 3 7 480 = y1 at hm ⊢
 obtain ⟨y, u1⟩ := y1
 simp only at hm
 rw [tail]
 ((simp (maxSteps := 1000000) only [VL,VM,↓VG,reduceIte,reduceCtorEq,zA,zB,zC,zD,zE,zF,zG,zH,zI,zJ]); rw [hKn];clear hKn Kn;simp only [QV,reduceIte,reduceCtorEq,Nat.reduceEqDiff])
 obtain ⟨z1, z2, z3⟩ := hm.sizes
 have hy0 := yErr_ok.2 hm
 have hwl := writeS_len hm
 ((repeat refine Ws ?_);refine W_regionE T_ok ?_; intro Kn hKn)
 simp (maxSteps := 1000000) only [VL,VM,↓VG,reduceIte,reduceCtorEq,zA,zB,zC,zD,zE,zF,zG,zH,zI,zJ]
 apply call_eq (f := 9) (fn := Tryz.f9) (by kernel_rfl) (by rfl)
 ·exact pwrite_v y _ z1 z2 z3
 rw [writeT_ok hm, hy0]
 ((simp (maxSteps := 1000000) only [VL,VM,↓VG,reduceIte,reduceCtorEq,zA,zB,zC,zD,zE,zF,zG,zH,zI,zJ]); rw [hKn];clear hKn Kn;simp only [QV,reduceIte,reduceCtorEq,Nat.reduceEqDiff])
 ((repeat refine Ws ?_);refine W_regionE T_ok ?_; intro Kn hKn)
 simp (maxSteps := 1000000) only [VL,VM,↓VG,reduceIte,reduceCtorEq,zA,zB,zC,zD,zE,zF,zG,zH,zI,zJ]
 apply call_eq (f := 12) (fn := Tryz.f12) (by kernel_rfl) (by rfl)
 ·exact pread_v (writeS y) _ (by omega)
 rw [rsRead_write hm]
 ((simp (maxSteps := 1000000) only [VL,VM,↓VG,reduceIte,reduceCtorEq,zA,zB,zC,zD,zE,zF,zG,zH,zI,zJ]); rw [hKn];clear hKn Kn;simp only [QV,reduceIte,reduceCtorEq,Nat.reduceEqDiff])
 (repeat refine Ws ?_)
 ((repeat refine Ws ?_);refine W_regionE T_ok ?_; intro Kn hKn)
 simp (maxSteps := 1000000) only [VL,VM,↓VG,reduceIte,reduceCtorEq,zA,zB,zC,zD,zE,zF,zG,zH,zI,zJ]
 apply call_eq (f := 14) (fn := Tryz.f14) (by kernel_rfl) (by rfl)
 ·exact sameYards_v y _ z1 z2 z3
 ((simp (maxSteps := 1000000) only [VL,VM,↓VG,reduceIte,reduceCtorEq,zA,zB,zC,zD,zE,zF,zG,zH,zI,zJ]); rw [hKn];clear hKn Kn;simp only [QV,reduceIte,reduceCtorEq,Nat.reduceEqDiff])
 ((repeat refine Ws ?_);refine Wf (by first|rfl|simp only [EV,zF,reduceIte]) ?_)
 (((repeat refine Ws ?_);refine W_skip ?_); simp only [QV,reduceIte,reduceCtorEq,Nat.reduceEqDiff])
 ((repeat refine Ws ?_);refine W_regionE T_ok ?_; intro Kn hKn)
 simp (maxSteps := 1000000) only [VL,VM,↓VG,reduceIte,reduceCtorEq,zA,zB,zC,zD,zE,zF,zG,zH,zI,zJ]
 apply call_eq (f := 12) (fn := Tryz.f12) (by kernel_rfl) (by rfl)
 ·exact pread_v s _ hs
 cases hr : rsRead s with | mk z r2 => ?_
 obtain ⟨a, b⟩ := r2
 ((simp (maxSteps := 1000000) only [VL,VM,↓VG,reduceIte,reduceCtorEq,zA,zB,zC,zD,zE,zF,zG,zH,zI,zJ]); rw [hKn];clear hKn Kn;simp only [QV,reduceIte,reduceCtorEq,Nat.reduceEqDiff])
 ((repeat refine Ws ?_);refine W_regionE T_ok ?_; intro Kn hKn)
 by_cases hb : b = 0
 rotate_left
 ·have k2 : (b = 0) = False := eq_false hb
  ((simp (maxSteps := 1000000) only [VL,VM,↓VG,reduceIte,reduceCtorEq,zA,zB,zC,zD,zE,zF,zG,zH,zI,zJ, k2]); rw [hKn];clear hKn Kn;simp only [QV,reduceIte,reduceCtorEq,Nat.reduceEqDiff])
  ((repeat refine Ws ?_);refine Wt (by first|rfl|simp only [EV,zF,reduceIte]) ?_)
  ((repeat refine Ws ?_);refine W_regionE T_ok ?_; intro Kn hKn)
  simp (maxSteps := 1000000) only [VL,VM,↓VG,reduceIte,reduceCtorEq,zA,zB,zC,zD,zE,zF,zG,zH,zI,zJ]
  apply call_eq (f := 6) (fn := Tryz.f6) (by kernel_rfl) (by rfl)
  ·exact awake_v _
  ((simp (maxSteps := 1000000) only [VL,VM,↓VG,reduceIte,reduceCtorEq,zA,zB,zC,zD,zE,zF,zG,zH,zI,zJ]); rw [hKn];clear hKn Kn;simp only [QV,reduceIte,reduceCtorEq,Nat.reduceEqDiff])
  (repeat refine Ws ?_)
  refine W_ret ?_
  try simp only [thenQ, blockQ]
  refine own_ret1 rfl ?_ (by rfl)
  simp only [get_cons, frz, vtup, Nat.reduceEqDiff, if_true, if_false, reduceIte]
 subst hb
 obtain ⟨hz, hw⟩ := rsRead_back hr
 obtain ⟨w1, w2, w3⟩ := hz.sizes
 ((simp (maxSteps := 1000000) only [VL,VM,↓VG,reduceIte,reduceCtorEq,zA,zB,zC,zD,zE,zF,zG,zH,zI,zJ]); rw [hKn];clear hKn Kn;simp only [QV,reduceIte,reduceCtorEq,Nat.reduceEqDiff])
 ((repeat refine Ws ?_);refine Wf (by first|rfl|simp only [EV,zF,reduceIte]) ?_)
 (((repeat refine Ws ?_);refine W_skip ?_); simp only [QV,reduceIte,reduceCtorEq,Nat.reduceEqDiff])
 ((repeat refine Ws ?_);refine W_regionE T_ok ?_; intro Kn hKn)
 simp (maxSteps := 1000000) only [VL,VM,↓VG,reduceIte,reduceCtorEq,zA,zB,zC,zD,zE,zF,zG,zH,zI,zJ]
 apply call_eq (f := 9) (fn := Tryz.f9) (by kernel_rfl) (by rfl)
 ·exact pwrite_v z _ w1 w2 w3
 rw [writeT_ok hz, yErr_ok.2 hz, hw]
 ((simp (maxSteps := 1000000) only [VL,VM,↓VG,reduceIte,reduceCtorEq,zA,zB,zC,zD,zE,zF,zG,zH,zI,zJ]); rw [hKn];clear hKn Kn;simp only [QV,reduceIte,reduceCtorEq,Nat.reduceEqDiff])
 ((repeat refine Ws ?_);refine W_regionE T_ok ?_; intro Kn hKn)
 simp (maxSteps := 1000000) only [VL,VM,↓VG,reduceIte,reduceCtorEq,zA,zB,zC,zD,zE,zF,zG,zH,zI,zJ, v_eqS]
 apply call_eq (f := 6) (fn := Tryz.f6) (by kernel_rfl) (by rfl)
 ·exact awake_v _
 ((simp (maxSteps := 1000000) only [VL,VM,↓VG,reduceIte,reduceCtorEq,zA,zB,zC,zD,zE,zF,zG,zH,zI,zJ]); rw [hKn];clear hKn Kn;simp only [QV,reduceIte,reduceCtorEq,Nat.reduceEqDiff])
 (repeat refine Ws ?_)
 refine W_ret ?_
 try simp only [thenQ, blockQ]
 refine own_ret1 rfl ?_ (by rfl)
 simp only [get_cons, frz, vtup, Nat.reduceEqDiff, if_true, if_false, reduceIte]
end Go.Proofs.YtmiiipdgbkipjaaGreatDoor.Vm
