/- A part of the proofs about the chapter of the vaults; it states no condition of its own. -/
import Derived.Test.YtnjgdlmddlinaaaDoorB17
import Derived.Test.YtnjgdlmddlinaaaDoorB18
import Derived.Test.YtnjgdlmddlinaaaDoorB20
import Derived.Test.YtnjgdlmddlinaaaDoorB21
import Derived.Test.YtnjgdlmddlinaaaDoorB24
import Derived.Test.YtnjgdlmddlinaaaDoorB25
import Derived.Test.YtnjgdlmddlinaaaDoorB27
set_option linter.unusedVariables false
set_option linter.unusedSimpArgs false
open Int renaming reduceLE → zA, reduceLT → zB, reduceToNat → zC, reduceNeg → zD
open Nat renaming reduceLT → zE, reduceEqDiff → zF, reduceAdd → zG, reduceSub → zH, reduceMul → zI, reduceLeDiff → zJ
/- The program's Write, on values. (Vm) -/
namespace Go.Proofs.YtnjgdlmddlinaaaDoor.Vm
open Go Go.Proofs
def WM (H : List VObj) (y : Ha) (p : By) (L : List VObj) : List VObj := H ++ .obj (hallC y) :: .clm p.length 1 :: .bld tBld tByte (H.length + 1) p :: L
section
variable {H : List VObj} {y : Ha} {p p' : By} {L : List VObj}
theorem WM_app (X : List VObj) : WM H y p L ++ X = WM H y p (L ++ X) := by simp [WM]
theorem WM_y : (WM H y p L)[H.length]? = some (.obj (hallC y)) := by unfold WM; rw [hget0]; rfl
theorem WM_len : (WM H y p L).length = H.length + (3 + L.length) := by simp [WM]; omega
theorem WM_at (k : Nat) : (WM H y p L)[H.length + (3 + k)]? = L[k]? := by
 unfold WM
 rw [hget, show 3 + k = k + 3 by omega]
 rfl
theorem WM_set (k : Nat) (o : VObj) : (WM H y p L).set (H.length + (3 + k)) o = WM H y p (L.set k o) := by
 unfold WM
 rw [hset, show 3 + k = k + 3 by omega]
 rfl
theorem WM_bld : bldH (WM H y p L) (H.length + 2) (H.length + 1) p' = WM H y p' L := by
 unfold bldH WM
 rw [hset, hset]
 rfl
theorem WM_end : bldE (WM H y p L) (H.length + 2) (H.length + 1) p = H ++ .obj (hallC y) :: .clm (p.length + 1) 1 :: .bld tBld tByte (H.length + 1) p :: L := by
 unfold bldE WM
 rw [hset, hset]
 rfl
end
theorem prowW {w : By} {l : List Int} {H : List VObj} {y : Ha} {p : By} {L : List VObj} {lg : List (Nat × Nat)} (hw0 : w ≠ []) (hw : w.length ≤ 1000000) (hl : l.length ≤ 1000000) (hp : p.length ≤ 1000000000) (hf : FitL l) :
  VC Tryd.prog 33 [vs w, intsV l, .ptr (H.length + 2) 0] ⟨WM H y p L, lg⟩ (fun r M' => M' = ⟨WM H y (p ++ rowS w l) L, lg⟩ ∧ r = .tup []) := by
 have h := prow_v w l (H := WM H y p L) (i := H.length + 2) (j := H.length + 1) (pre := p) (lg := lg) (by omega) (by rw [WM_len]; omega) (by rw [WM_len]; omega) hw0 hw hl hp hf
 rw [WM_bld, WM_bld] at h
 exact h
theorem strW {H : List VObj} {y : Ha} {p : By} {L : List VObj} {lg : List (Nat × Nat)} (h0 : p ≠ []) :
  VC Tryd.prog 36 [.ptr (H.length + 2) 0] ⟨WM H y p L, lg⟩ (fun r M' => M' = ⟨H ++ .obj (hallC y) :: .clm (p.length + 1) 1 :: .bld tBld tByte (H.length + 1) p :: L, lg⟩ ∧ r = vs p) := by
 have h := string_v (H := WM H y p L) (i := H.length + 2) (j := H.length + 1) (l := p) (lg := lg) (by unfold WM; rw [hget]; rfl) (by unfold WM; rw [hget]; rfl) h0
 rw [WM_end] at h
 exact h
theorem sm_fit {l : List Int} (h : SmL l) : FitL l := fun n hn => by have := h n hn; omega
def writeT (y : Ha) : By := if hallErr y = 0 then writeS y else []
set_option maxHeartbeats 4000000 in
theorem pwrite_v (y : Ha) (M : Mem) (F : Fin y) : VC Tryd.prog 14 [hallV y] M (fun r M' => M' = M ∧ r = .tup [vs (writeT y), vi (hallErr y)]) := by
 refine VC_own' T_ok (f := 14) (fn := Tryd.f14) (by kernel_rfl) rfl Tryd.ntmps14 (by rfl) (by rfl) ?_
 ((repeat refine Ws ?_);refine W_regionE T_ok ?_; intro Kn hKn)
 ((simp (maxSteps := 1000000) only [VL,VM,↓VG,reduceIte,reduceCtorEq,zA,zB,zC,zD,zE,zF,zG,zH,zI,zJ]); rw [hKn];clear hKn Kn;simp only [QV,reduceIte,reduceCtorEq,Nat.reduceEqDiff])
 ((repeat refine Ws ?_);refine W_regionE T_ok ?_; intro Kn hKn)
 simp (maxSteps := 1000000) only [VL,VM,↓VG,reduceIte,reduceCtorEq,zA,zB,zC,zD,zE,zF,zG,zH,zI,zJ]
 apply call_eq (f := 6) (fn := Tryd.f6) (by kernel_rfl) (by rfl)
 ·exact check_vm y _ F
 ((simp (maxSteps := 1000000) only [VL,VM,↓VG,reduceIte,reduceCtorEq,zA,zB,zC,zD,zE,zF,zG,zH,zI,zJ]); rw [hKn];clear hKn Kn;simp only [QV,reduceIte,reduceCtorEq,Nat.reduceEqDiff])
 ((repeat refine Ws ?_);refine W_regionE T_ok ?_; intro Kn hKn)
 by_cases h1 : hallErr y = 0
 rotate_left
 ·have k1 : (hallErr y = 0) = False := eq_false h1
  ((simp (maxSteps := 1000000) only [VL,VM,↓VG,reduceIte,reduceCtorEq,zA,zB,zC,zD,zE,zF,zG,zH,zI,zJ, k1]); rw [hKn];clear hKn Kn;simp only [QV,reduceIte,reduceCtorEq,Nat.reduceEqDiff])
  ((repeat refine Ws ?_);refine Wt (by first|rfl|simp only [EV,zF,reduceIte]) ?_)
  ((repeat refine Ws ?_);refine W_regionE T_ok ?_; intro Kn hKn)
  ((simp (maxSteps := 1000000) only [VL,VM,↓VG,reduceIte,reduceCtorEq,zA,zB,zC,zD,zE,zF,zG,zH,zI,zJ]); rw [hKn];clear hKn Kn;simp only [QV,reduceIte,reduceCtorEq,Nat.reduceEqDiff])
  (repeat refine Ws ?_)
  refine W_ret ?_
  try simp only [thenQ, blockQ]
  refine own_ret2t rfl ?_ ?_ (by rfl) (by rfl)
  ·simp only [get_cons, frz, vtup, Nat.reduceEqDiff, if_true, if_false, reduceIte]
   rw [show writeT y = [] from if_neg h1]
   rfl
  ·simp only [get_cons, frz, vtup, Nat.reduceEqDiff, if_true, if_false, reduceIte]
 have V := VH.of h1
 have k1 : (hallErr y = 0) = True := eq_true h1
 obtain ⟨cw, ci⟩ := cells_in V V.water
 obtain ⟨cs, cj⟩ := cells_in V V.shut
 have cb := bears_len V
 have ck := V.kinds6
 ((simp (maxSteps := 1000000) only [VL,VM,↓VG,reduceIte,reduceCtorEq,zA,zB,zC,zD,zE,zF,zG,zH,zI,zJ, k1]); rw [hKn];clear hKn Kn;simp only [QV,reduceIte,reduceCtorEq,Nat.reduceEqDiff])
 ((repeat refine Ws ?_);refine Wf (by first|rfl|simp only [EV,zF,reduceIte]) ?_)
 (((repeat refine Ws ?_);refine W_skip ?_); simp only [QV,reduceIte,reduceCtorEq,Nat.reduceEqDiff])
 have fs : FitL (haL y) := sm_fit (ha_sm V)
 have l0 := rowS_short (w := wHall) (ha_sm V)
 (repeat refine Ws ?_)
 refine W_allocB T_ok (tE := tByte) t_build rfl (by decide) ?_
 refine W_eqM (M' := ⟨WM M.H y [] [], M.lg⟩) (by simp [WM]) ?_
 simp only [List.length_append, List.length_singleton, Nat.add_assoc, Nat.reduceAdd]
 ((repeat refine Ws ?_);refine W_regionE T_ok ?_; intro Kn hKn)
 ((simp (maxSteps := 1000000) only [VL,VM,↓VG,reduceIte,reduceCtorEq,zA,zB,zC,zD,zE,zF,zG,zH,zI,zJ]); rw [hKn];clear hKn Kn;simp only [QV,reduceIte,reduceCtorEq,Nat.reduceEqDiff])
 ((repeat refine Ws ?_);refine W_regionE T_ok ?_; intro Kn hKn)
 simp (maxSteps := 1000000) only [VL,VM,↓VG,reduceIte,reduceCtorEq,zA,zB,zC,zD,zE,zF,zG,zH,zI,zJ, WM_y]
 apply callf_eq (f := 33) (fn := Tryd.f33) (by kernel_rfl) (by rfl)
 ·exact prowW (w := wHall) (l := haL y) (by simp [wHall]) (by simp [wHall]) (by simp [haL]) (by simp) fs
 ((simp (maxSteps := 1000000) only [VL,VM,↓VG,reduceIte,reduceCtorEq,zA,zB,zC,zD,zE,zF,zG,zH,zI,zJ]); rw [hKn];clear hKn Kn;simp only [QV,reduceIte,reduceCtorEq,Nat.reduceEqDiff])
 have l0' : (rowS wHall (haL y)).length ≤ 41 := l0
 obtain ⟨p0, hp0⟩ : ∃ p, p = rowS wHall (haL y) := ⟨_, rfl⟩
 have n0 : p0 ≠ [] := by rw [hp0]; simp [rowS, wHall]
 rw [← hp0] at l0' ⊢
 ((repeat refine Ws ?_);refine W_regionE T_ok ?_; intro Kn hKn)
 ((simp (maxSteps := 1000000) only [VL,VM,↓VG,reduceIte,reduceCtorEq,zA,zB,zC,zD,zE,zF,zG,zH,zI,zJ, WM_y]); rw [hKn];clear hKn Kn;simp only [QV,reduceIte,reduceCtorEq,Nat.reduceEqDiff])
 have lr0 : ∀ i, (waS (y.water.take i)).length ≤ 24 * 24 := fun i => by
  have := byF_len (f := fun c => rowS wWater (plL c)) (k := 24) (l := y.water.take i) fun r hr => by
   simpa [plL, wWater] using rowS_short (w := wWater) (pl_sm ci (List.mem_of_mem_take hr))
  rw [List.length_take] at this
  unfold waS
  omega
 ((repeat refine Ws ?_);refine W_block ?_; (repeat refine Ws ?_)); refine W_loopS (fun s : Nat × List VObj => [(1, .ptr M.H.length 0), (5, .ptr (M.H.length + 2) 0), (6, .fn (.func 33) [] [.ptr (M.H.length + 2) 0]), (36, plsV y.water), (37, vi y.water.length), (38, vi s.1)]) (fun s => ⟨WM M.H y (p0 ++ waS (y.water.take s.1)) s.2, M.lg⟩) (fun s => y.water.length - s.1) (fun s => s.1 ≤ y.water.length) (0, []) (Nat.zero_le _) ⟨rfl, rfl, rfl, rfl, rfl, rfl, trivial⟩ (by simp [waS]) ?_
 rintro ⟨i, L0⟩ hi
 simp only at hi
 have k2 : -9223372036854775808 ≤ (i : Int) + 1 ∧ (i : Int) + 1 < 9223372036854775808 := by omega
 ((repeat refine Ws ?_);refine W_regionE T_ok ?_; intro Kn hKn)
 rcases Nat.lt_or_ge i y.water.length with hlt | hge
 ·have k3 : ((i : Int) < (y.water.length : Int)) = True := eq_true (by omega)
  have hx := map_at (f := plP) (List.getElem?_eq_getElem hlt)
  have hmem := List.getElem_mem hlt
  have key : waS (y.water.take (i + 1)) = _ := byF_take (f := fun c => rowS wWater (plL c)) hlt
  have ll := lr0 i
  generalize y.water[i] = c at hx hmem key
  have ek : (y.water.take i).flatMap (fun c => rowS wWater (plL c)) = waS (y.water.take i) := rfl
  rw [ek] at key
  generalize waS (y.water.take i) = pre at key ll ⊢
  have hp : (p0 ++ pre).length ≤ 1000000000 := by rw [List.length_append]; omega
  ((simp (maxSteps := 1000000) only [VL,VM,↓VG,reduceIte,reduceCtorEq,zA,zB,zC,zD,zE,zF,zG,zH,zI,zJ, k3]); rw [hKn];clear hKn Kn;simp only [QV,reduceIte,reduceCtorEq,Nat.reduceEqDiff])
  ((repeat refine Ws ?_);refine Wt (by first|rfl|simp only [EV,zF,reduceIte]) ?_)
  (((repeat refine Ws ?_);refine W_skip ?_); simp only [QV,reduceIte,reduceCtorEq,Nat.reduceEqDiff])
  ((repeat refine Ws ?_);refine W_block ?_)
  ((repeat refine Ws ?_);refine W_regionE T_ok ?_; intro Kn hKn)
  ((simp (maxSteps := 1000000) only [VL,VM,↓VG,reduceIte,reduceCtorEq,zA,zB,zC,zD,zE,zF,zG,zH,zI,zJ, hx, WM_len, WM_app, WM_at, WM_set]); rw [hKn];clear hKn Kn;simp only [QV,reduceIte,reduceCtorEq,Nat.reduceEqDiff])
  ((repeat refine Ws ?_);refine W_regionE T_ok ?_; intro Kn hKn)
  simp (maxSteps := 1000000) only [VL,VM,↓VG,reduceIte,reduceCtorEq,zA,zB,zC,zD,zE,zF,zG,zH,zI,zJ, WM_len, WM_at]
  apply callf_eq (f := 33) (fn := Tryd.f33) (by kernel_rfl) (by rfl)
  ·exact prowW (w := wWater) (l := plL c) (by simp [wWater]) (by simp [wWater]) (by simp [plL]) hp (sm_fit (pl_sm ci hmem))
  ((simp (maxSteps := 1000000) only [VL,VM,↓VG,reduceIte,reduceCtorEq,zA,zB,zC,zD,zE,zF,zG,zH,zI,zJ]); rw [hKn];clear hKn Kn;simp only [QV,reduceIte,reduceCtorEq,Nat.reduceEqDiff])
  ((repeat refine Ws ?_);refine W_regionE T_ok ?_; intro Kn hKn)
  ((simp (maxSteps := 1000000) only [VL,VM,↓VG,reduceIte,reduceCtorEq,zA,zB,zC,zD,zE,zF,zG,zH,zI,zJ, k2]); rw [hKn];clear hKn Kn;simp only [QV,reduceIte,reduceCtorEq,Nat.reduceEqDiff])
  refine LoopK.mk (i + 1, L0 ++ [.obj [vi c.x, vi c.y]]) (by simp; omega) (by simp; omega) ⟨rfl, rfl, rfl, rfl, rfl, rfl, trivial⟩ ?_
  rw [key]; try simp
 have k3 : ((i : Int) < (y.water.length : Int)) = False := eq_false (by omega)
 obtain rfl : i = y.water.length := by omega
 ((simp (maxSteps := 1000000) only [VL,VM,↓VG,reduceIte,reduceCtorEq,zA,zB,zC,zD,zE,zF,zG,zH,zI,zJ, k3, List.take_length]); rw [hKn];clear hKn Kn;simp only [QV,reduceIte,reduceCtorEq,Nat.reduceEqDiff])
 ((repeat refine Ws ?_);refine Wf (by first|rfl|simp only [EV,zF,reduceIte]) ?_)
 (((repeat refine Ws ?_);refine W_exit ?_); simp only [QV,reduceIte,reduceCtorEq,Nat.reduceEqDiff])
 have lq0 := lr0 y.water.length
 rw [List.take_length] at lq0
 obtain ⟨p1, hp1⟩ : ∃ p, p = p0 ++ waS y.water := ⟨_, rfl⟩
 have n1 : p1 ≠ [] := by rw [hp1]; simp [n0]
 have m1 : p1.length ≤ 100 + 576 := by rw [hp1, List.length_append]; omega
 rw [← hp1]
 ((repeat refine Ws ?_);refine W_regionE T_ok ?_; intro Kn hKn)
 ((simp (maxSteps := 1000000) only [VL,VM,↓VG,reduceIte,reduceCtorEq,zA,zB,zC,zD,zE,zF,zG,zH,zI,zJ, WM_y]); rw [hKn];clear hKn Kn;simp only [QV,reduceIte,reduceCtorEq,Nat.reduceEqDiff])
 have lr1 : ∀ i, (shS (y.shut.take i)).length ≤ 23 * 24 := fun i => by
  have := byF_len (f := fun c => rowS wShut (plL c)) (k := 23) (l := y.shut.take i) fun r hr => by
   simpa [plL, wShut] using rowS_short (w := wShut) (pl_sm cj (List.mem_of_mem_take hr))
  rw [List.length_take] at this
  unfold shS
  omega
 ((repeat refine Ws ?_);refine W_block ?_; (repeat refine Ws ?_)); refine W_loopS (fun s : Nat × List VObj => [(1, .ptr M.H.length 0), (5, .ptr (M.H.length + 2) 0), (6, .fn (.func 33) [] [.ptr (M.H.length + 2) 0]), (51, plsV y.shut), (52, vi y.shut.length), (53, vi s.1)]) (fun s => ⟨WM M.H y (p1 ++ shS (y.shut.take s.1)) s.2, M.lg⟩) (fun s => y.shut.length - s.1) (fun s => s.1 ≤ y.shut.length) (0, L0) (Nat.zero_le _) ⟨rfl, rfl, rfl, rfl, rfl, rfl, trivial⟩ (by simp [shS]) ?_
 rintro ⟨i, L1⟩ hi
 simp only at hi
 have k2 : -9223372036854775808 ≤ (i : Int) + 1 ∧ (i : Int) + 1 < 9223372036854775808 := by omega
 ((repeat refine Ws ?_);refine W_regionE T_ok ?_; intro Kn hKn)
 rcases Nat.lt_or_ge i y.shut.length with hlt | hge
 ·have k3 : ((i : Int) < (y.shut.length : Int)) = True := eq_true (by omega)
  have hx := map_at (f := plP) (List.getElem?_eq_getElem hlt)
  have hmem := List.getElem_mem hlt
  have key : shS (y.shut.take (i + 1)) = _ := byF_take (f := fun c => rowS wShut (plL c)) hlt
  have ll := lr1 i
  generalize y.shut[i] = c at hx hmem key
  have ek : (y.shut.take i).flatMap (fun c => rowS wShut (plL c)) = shS (y.shut.take i) := rfl
  rw [ek] at key
  generalize shS (y.shut.take i) = pre at key ll ⊢
  have hp : (p1 ++ pre).length ≤ 1000000000 := by rw [List.length_append]; omega
  ((simp (maxSteps := 1000000) only [VL,VM,↓VG,reduceIte,reduceCtorEq,zA,zB,zC,zD,zE,zF,zG,zH,zI,zJ, k3]); rw [hKn];clear hKn Kn;simp only [QV,reduceIte,reduceCtorEq,Nat.reduceEqDiff])
  ((repeat refine Ws ?_);refine Wt (by first|rfl|simp only [EV,zF,reduceIte]) ?_)
  (((repeat refine Ws ?_);refine W_skip ?_); simp only [QV,reduceIte,reduceCtorEq,Nat.reduceEqDiff])
  ((repeat refine Ws ?_);refine W_block ?_)
  ((repeat refine Ws ?_);refine W_regionE T_ok ?_; intro Kn hKn)
  ((simp (maxSteps := 1000000) only [VL,VM,↓VG,reduceIte,reduceCtorEq,zA,zB,zC,zD,zE,zF,zG,zH,zI,zJ, hx, WM_len, WM_app, WM_at, WM_set]); rw [hKn];clear hKn Kn;simp only [QV,reduceIte,reduceCtorEq,Nat.reduceEqDiff])
  ((repeat refine Ws ?_);refine W_regionE T_ok ?_; intro Kn hKn)
  simp (maxSteps := 1000000) only [VL,VM,↓VG,reduceIte,reduceCtorEq,zA,zB,zC,zD,zE,zF,zG,zH,zI,zJ, WM_len, WM_at]
  apply callf_eq (f := 33) (fn := Tryd.f33) (by kernel_rfl) (by rfl)
  ·exact prowW (w := wShut) (l := plL c) (by simp [wShut]) (by simp [wShut]) (by simp [plL]) hp (sm_fit (pl_sm cj hmem))
  ((simp (maxSteps := 1000000) only [VL,VM,↓VG,reduceIte,reduceCtorEq,zA,zB,zC,zD,zE,zF,zG,zH,zI,zJ]); rw [hKn];clear hKn Kn;simp only [QV,reduceIte,reduceCtorEq,Nat.reduceEqDiff])
  ((repeat refine Ws ?_);refine W_regionE T_ok ?_; intro Kn hKn)
  ((simp (maxSteps := 1000000) only [VL,VM,↓VG,reduceIte,reduceCtorEq,zA,zB,zC,zD,zE,zF,zG,zH,zI,zJ, k2]); rw [hKn];clear hKn Kn;simp only [QV,reduceIte,reduceCtorEq,Nat.reduceEqDiff])
  refine LoopK.mk (i + 1, L1 ++ [.obj [vi c.x, vi c.y]]) (by simp; omega) (by simp; omega) ⟨rfl, rfl, rfl, rfl, rfl, rfl, trivial⟩ ?_
  rw [key]; try simp
 have k3 : ((i : Int) < (y.shut.length : Int)) = False := eq_false (by omega)
 obtain rfl : i = y.shut.length := by omega
 ((simp (maxSteps := 1000000) only [VL,VM,↓VG,reduceIte,reduceCtorEq,zA,zB,zC,zD,zE,zF,zG,zH,zI,zJ, k3, List.take_length]); rw [hKn];clear hKn Kn;simp only [QV,reduceIte,reduceCtorEq,Nat.reduceEqDiff])
 ((repeat refine Ws ?_);refine Wf (by first|rfl|simp only [EV,zF,reduceIte]) ?_)
 (((repeat refine Ws ?_);refine W_exit ?_); simp only [QV,reduceIte,reduceCtorEq,Nat.reduceEqDiff])
 have lq1 := lr1 y.shut.length
 rw [List.take_length] at lq1
 obtain ⟨p2, hp2⟩ : ∃ p, p = p1 ++ shS y.shut := ⟨_, rfl⟩
 have n2 : p2 ≠ [] := by rw [hp2]; simp [n1]
 have m2 : p2.length ≤ 100 + 1128 := by rw [hp2, List.length_append]; omega
 rw [← hp2]
 ((repeat refine Ws ?_);refine W_regionE T_ok ?_; intro Kn hKn)
 ((simp (maxSteps := 1000000) only [VL,VM,↓VG,reduceIte,reduceCtorEq,zA,zB,zC,zD,zE,zF,zG,zH,zI,zJ, WM_y]); rw [hKn];clear hKn Kn;simp only [QV,reduceIte,reduceCtorEq,Nat.reduceEqDiff])
 have lr2 : ∀ i, (beS (y.bears.take i)).length ≤ 15 * 24 := fun i => by
  have := byF_len (f := fun n => rowS wBears [n]) (k := 15) (l := y.bears.take i) fun r hr => by
   simpa [wBears] using rowS_short (w := wBears) (be_sm V (List.mem_of_mem_take hr))
  rw [List.length_take] at this
  unfold beS
  omega
 ((repeat refine Ws ?_);refine W_block ?_; (repeat refine Ws ?_)); refine W_loopS (fun s : Nat × List VObj => [(1, .ptr M.H.length 0), (5, .ptr (M.H.length + 2) 0), (6, .fn (.func 33) [] [.ptr (M.H.length + 2) 0]), (66, intsV y.bears), (67, vi y.bears.length), (68, vi s.1)]) (fun s => ⟨WM M.H y (p2 ++ beS (y.bears.take s.1)) s.2, M.lg⟩) (fun s => y.bears.length - s.1) (fun s => s.1 ≤ y.bears.length) (0, L1) (Nat.zero_le _) ⟨rfl, rfl, rfl, rfl, rfl, rfl, trivial⟩ (by simp [beS]) ?_
 rintro ⟨i, L2⟩ hi
 simp only at hi
 have k2 : -9223372036854775808 ≤ (i : Int) + 1 ∧ (i : Int) + 1 < 9223372036854775808 := by omega
 ((repeat refine Ws ?_);refine W_regionE T_ok ?_; intro Kn hKn)
 rcases Nat.lt_or_ge i y.bears.length with hlt | hge
 ·have k3 : ((i : Int) < (y.bears.length : Int)) = True := eq_true (by omega)
  have hx := map_at (f := intP) (List.getElem?_eq_getElem hlt)
  have hmem := List.getElem_mem hlt
  have key : beS (y.bears.take (i + 1)) = _ := byF_take (f := fun n => rowS wBears [n]) hlt
  have ll := lr2 i
  generalize y.bears[i] = c at hx hmem key
  have ek : (y.bears.take i).flatMap (fun n => rowS wBears [n]) = beS (y.bears.take i) := rfl
  rw [ek] at key
  generalize beS (y.bears.take i) = pre at key ll ⊢
  have hp : (p2 ++ pre).length ≤ 1000000000 := by rw [List.length_append]; omega
  ((simp (maxSteps := 1000000) only [VL,VM,↓VG,reduceIte,reduceCtorEq,zA,zB,zC,zD,zE,zF,zG,zH,zI,zJ, k3]); rw [hKn];clear hKn Kn;simp only [QV,reduceIte,reduceCtorEq,Nat.reduceEqDiff])
  ((repeat refine Ws ?_);refine Wt (by first|rfl|simp only [EV,zF,reduceIte]) ?_)
  (((repeat refine Ws ?_);refine W_skip ?_); simp only [QV,reduceIte,reduceCtorEq,Nat.reduceEqDiff])
  ((repeat refine Ws ?_);refine W_block ?_)
  ((repeat refine Ws ?_);refine W_regionE T_ok ?_; intro Kn hKn)
  ((simp (maxSteps := 1000000) only [VL,VM,↓VG,reduceIte,reduceCtorEq,zA,zB,zC,zD,zE,zF,zG,zH,zI,zJ, hx, WM_len, WM_app, WM_at, WM_set]); rw [hKn];clear hKn Kn;simp only [QV,reduceIte,reduceCtorEq,Nat.reduceEqDiff])
  ((repeat refine Ws ?_);refine W_regionE T_ok ?_; intro Kn hKn)
  simp (maxSteps := 1000000) only [VL,VM,↓VG,reduceIte,reduceCtorEq,zA,zB,zC,zD,zE,zF,zG,zH,zI,zJ, WM_len, WM_at]
  apply callf_eq (f := 33) (fn := Tryd.f33) (by kernel_rfl) (by rfl)
  ·exact prowW (w := wBears) (l := [c]) (by simp [wBears]) (by simp [wBears]) (by simp) hp (sm_fit (be_sm V hmem))
  ((simp (maxSteps := 1000000) only [VL,VM,↓VG,reduceIte,reduceCtorEq,zA,zB,zC,zD,zE,zF,zG,zH,zI,zJ]); rw [hKn];clear hKn Kn;simp only [QV,reduceIte,reduceCtorEq,Nat.reduceEqDiff])
  ((repeat refine Ws ?_);refine W_regionE T_ok ?_; intro Kn hKn)
  ((simp (maxSteps := 1000000) only [VL,VM,↓VG,reduceIte,reduceCtorEq,zA,zB,zC,zD,zE,zF,zG,zH,zI,zJ, k2]); rw [hKn];clear hKn Kn;simp only [QV,reduceIte,reduceCtorEq,Nat.reduceEqDiff])
  refine LoopK.mk (i + 1, L2) (by simp; omega) (by simp; omega) ⟨rfl, rfl, rfl, rfl, rfl, rfl, trivial⟩ ?_
  rw [key]; try simp
 have k3 : ((i : Int) < (y.bears.length : Int)) = False := eq_false (by omega)
 obtain rfl : i = y.bears.length := by omega
 ((simp (maxSteps := 1000000) only [VL,VM,↓VG,reduceIte,reduceCtorEq,zA,zB,zC,zD,zE,zF,zG,zH,zI,zJ, k3, List.take_length]); rw [hKn];clear hKn Kn;simp only [QV,reduceIte,reduceCtorEq,Nat.reduceEqDiff])
 ((repeat refine Ws ?_);refine Wf (by first|rfl|simp only [EV,zF,reduceIte]) ?_)
 (((repeat refine Ws ?_);refine W_exit ?_); simp only [QV,reduceIte,reduceCtorEq,Nat.reduceEqDiff])
 have lq2 := lr2 y.bears.length
 rw [List.take_length] at lq2
 obtain ⟨p3, hp3⟩ : ∃ p, p = p2 ++ beS y.bears := ⟨_, rfl⟩
 have n3 : p3 ≠ [] := by rw [hp3]; simp [n2]
 have m3 : p3.length ≤ 100 + 1488 := by rw [hp3, List.length_append]; omega
 rw [← hp3]
 ((repeat refine Ws ?_);refine W_regionE T_ok ?_; intro Kn hKn)
 ((simp (maxSteps := 1000000) only [VL,VM,↓VG,reduceIte,reduceCtorEq,zA,zB,zC,zD,zE,zF,zG,zH,zI,zJ, WM_y]); rw [hKn];clear hKn Kn;simp only [QV,reduceIte,reduceCtorEq,Nat.reduceEqDiff])
 have lr3 : ∀ i, (kiS (y.kinds.take i)).length ≤ 104 * 24 := fun i => by
  have := byF_len (f := fun k => rowS wKind (kiL k)) (k := 104) (l := y.kinds.take i) fun r hr => by
   have hm := List.mem_of_mem_take hr
   have h1 := rowS_short (w := wKind) (ki_sm (V.kind r hm))
   have h2 := ki_away V hm
   have h4 : wKind.length = 4 := rfl
   rw [kiL_len] at h1
   omega
  rw [List.length_take] at this
  unfold kiS
  omega
 ((repeat refine Ws ?_);refine W_block ?_; (repeat refine Ws ?_)); refine W_loopS (fun s : Nat × List VObj => [(1, .ptr M.H.length 0), (5, .ptr (M.H.length + 2) 0), (6, .fn (.func 33) [] [.ptr (M.H.length + 2) 0]), (78, kisV y.kinds), (79, vi y.kinds.length), (80, vi s.1)]) (fun s => ⟨WM M.H y (p3 ++ kiS (y.kinds.take s.1)) s.2, M.lg⟩) (fun s => y.kinds.length - s.1) (fun s => s.1 ≤ y.kinds.length) (0, L2) (Nat.zero_le _) ⟨rfl, rfl, rfl, rfl, rfl, rfl, trivial⟩ (by simp [kiS]) ?_
 rintro ⟨i, L3⟩ hi
 simp only at hi
 have k2 : -9223372036854775808 ≤ (i : Int) + 1 ∧ (i : Int) + 1 < 9223372036854775808 := by omega
 ((repeat refine Ws ?_);refine W_regionE T_ok ?_; intro Kn hKn)
 rcases Nat.lt_or_ge i y.kinds.length with hlt | hge
 ·have k3 : ((i : Int) < (y.kinds.length : Int)) = True := eq_true (by omega)
  have hx := map_at (f := kiP) (List.getElem?_eq_getElem hlt)
  have hmem := List.getElem_mem hlt
  have key : kiS (y.kinds.take (i + 1)) = _ := byF_take (f := fun k => rowS wKind (kiL k)) hlt
  have ll := lr3 i
  generalize y.kinds[i] = c at hx hmem key
  have ek : (y.kinds.take i).flatMap (fun k => rowS wKind (kiL k)) = kiS (y.kinds.take i) := rfl
  rw [ek] at key
  generalize kiS (y.kinds.take i) = pre at key ll ⊢
  have hp : (p3 ++ pre).length ≤ 1000000000 := by rw [List.length_append]; omega
  have ka := ki_away V hmem
  have hlen : (kiL c).length ≤ 1000000 := by rw [kiL_len]; omega
  have hrow : ∀ (l : List Int) (L : List VObj), l = kiL c → VC Tryd.prog 33 [vs wKind, intsV l, .ptr (M.H.length + 2) 0] ⟨WM M.H y (p3 ++ pre) L, M.lg⟩ (fun r M' => M' = ⟨WM M.H y (p3 ++ pre ++ rowS wKind (kiL c)) L, M.lg⟩ ∧ r = .tup []) := by
   rintro l L rfl
   exact prowW (by simp [wKind]) (by simp [wKind]) hlen hp (sm_fit (ki_sm (V.kind c hmem)))
  obtain ⟨lo, hi', wa, aw, re, mo⟩ := c
  ((simp (maxSteps := 1000000) only [VL,VM,↓VG,reduceIte,reduceCtorEq,zA,zB,zC,zD,zE,zF,zG,zH,zI,zJ, k3]); rw [hKn];clear hKn Kn;simp only [QV,reduceIte,reduceCtorEq,Nat.reduceEqDiff])
  ((repeat refine Ws ?_);refine Wt (by first|rfl|simp only [EV,zF,reduceIte]) ?_)
  (((repeat refine Ws ?_);refine W_skip ?_); simp only [QV,reduceIte,reduceCtorEq,Nat.reduceEqDiff])
  ((repeat refine Ws ?_);refine W_block ?_)
  ((repeat refine Ws ?_);refine W_regionE T_ok ?_; intro Kn hKn)
  ((simp (maxSteps := 1000000) only [VL,VM,↓VG,reduceIte,reduceCtorEq,zA,zB,zC,zD,zE,zF,zG,zH,zI,zJ, hx, WM_len, WM_app, WM_at, WM_set]); rw [hKn];clear hKn Kn;simp only [QV,reduceIte,reduceCtorEq,Nat.reduceEqDiff])
  ((repeat refine Ws ?_);refine W_regionE T_ok ?_; intro Kn hKn)
  ((simp (maxSteps := 1000000) only [VL,VM,↓VG,reduceIte,reduceCtorEq,zA,zB,zC,zD,zE,zF,zG,zH,zI,zJ]); rw [hKn];clear hKn Kn;simp only [QV,reduceIte,reduceCtorEq,Nat.reduceEqDiff])
  ((repeat refine Ws ?_);refine W_regionE T_ok ?_; intro Kn hKn)
  cases wa
  ·((simp (maxSteps := 1000000) only [VL,VM,↓VG,reduceIte,reduceCtorEq,zA,zB,zC,zD,zE,zF,zG,zH,zI,zJ, WM_len, WM_at]); rw [hKn];clear hKn Kn;simp only [QV,reduceIte,reduceCtorEq,Nat.reduceEqDiff])
   ((repeat refine Ws ?_);refine Wf (by first|rfl|simp only [EV,zF,reduceIte]) ?_)
   (((repeat refine Ws ?_);refine W_skip ?_); simp only [QV,reduceIte,reduceCtorEq,Nat.reduceEqDiff])
   ((repeat refine Ws ?_);refine W_regionE T_ok ?_; intro Kn hKn)
   by_cases hr : aw = []
   ·subst hr
    simp (maxSteps := 1000000) only [VL,VM,↓VG,reduceIte,reduceCtorEq,zA,zB,zC,zD,zE,zF,zG,zH,zI,zJ, WM_len, WM_app, WM_at, List.map_nil]
    apply callf_eq (f := 33) (fn := Tryd.f33) (by kernel_rfl) (by rfl)
    ·exact hrow [lo, hi', 0, re, mo] _ rfl
    ((simp (maxSteps := 1000000) only [VL,VM,↓VG,reduceIte,reduceCtorEq,zA,zB,zC,zD,zE,zF,zG,zH,zI,zJ]); rw [hKn];clear hKn Kn;simp only [QV,reduceIte,reduceCtorEq,Nat.reduceEqDiff])
    ((repeat refine Ws ?_);refine W_regionE T_ok ?_; intro Kn hKn)
    ((simp (maxSteps := 1000000) only [VL,VM,↓VG,reduceIte,reduceCtorEq,zA,zB,zC,zD,zE,zF,zG,zH,zI,zJ, k2]); rw [hKn];clear hKn Kn;simp only [QV,reduceIte,reduceCtorEq,Nat.reduceEqDiff])
    refine LoopK.mk (i + 1, L3 ++ [.obj [vi lo, vi hi', vb false, .p (.sl 1 []), vi re, vi mo]]) (by simp; omega) (by simp; omega) ⟨rfl, rfl, rfl, rfl, rfl, rfl, trivial⟩ ?_
    rw [key]; try simp
   ·have hb : ((5 + aw.length) * 8 ≤ 140737488355328) = True := eq_true (by simp only at ka; omega)
    have he : (List.map intP aw).isEmpty = false := by
     rw [List.isEmpty_map]
     exact List.isEmpty_eq_false_iff.2 hr
    simp (maxSteps := 1000000) only [VL,VM,↓VG,reduceIte,reduceCtorEq,zA,zB,zC,zD,zE,zF,zG,zH,zI,zJ, he, hb, Bool.not_false, WM_len, WM_app, WM_at]
    apply callf_eq (f := 33) (fn := Tryd.f33) (by kernel_rfl) (by rfl)
    ·exact hrow (lo :: hi' :: 0 :: re :: mo :: aw) _ rfl
    ((simp (maxSteps := 1000000) only [VL,VM,↓VG,reduceIte,reduceCtorEq,zA,zB,zC,zD,zE,zF,zG,zH,zI,zJ]); rw [hKn];clear hKn Kn;simp only [QV,reduceIte,reduceCtorEq,Nat.reduceEqDiff])
    ((repeat refine Ws ?_);refine W_regionE T_ok ?_; intro Kn hKn)
    ((simp (maxSteps := 1000000) only [VL,VM,↓VG,reduceIte,reduceCtorEq,zA,zB,zC,zD,zE,zF,zG,zH,zI,zJ, k2]); rw [hKn];clear hKn Kn;simp only [QV,reduceIte,reduceCtorEq,Nat.reduceEqDiff])
    refine LoopK.mk (i + 1, L3 ++ [.obj [vi lo, vi hi', vb false, intsV aw, vi re, vi mo], .clm (5 + aw.length) 1]) (by simp; omega) (by simp; omega) ⟨rfl, rfl, rfl, rfl, rfl, rfl, trivial⟩ ?_
    rw [key]; try simp
  ·((simp (maxSteps := 1000000) only [VL,VM,↓VG,reduceIte,reduceCtorEq,zA,zB,zC,zD,zE,zF,zG,zH,zI,zJ, WM_len, WM_at]); rw [hKn];clear hKn Kn;simp only [QV,reduceIte,reduceCtorEq,Nat.reduceEqDiff])
   ((repeat refine Ws ?_);refine Wt (by first|rfl|simp only [EV,zF,reduceIte]) ?_)
   ((repeat refine Ws ?_);refine W_regionE T_ok ?_; intro Kn hKn)
   ((simp (maxSteps := 1000000) only [VL,VM,↓VG,reduceIte,reduceCtorEq,zA,zB,zC,zD,zE,zF,zG,zH,zI,zJ]); rw [hKn];clear hKn Kn;simp only [QV,reduceIte,reduceCtorEq,Nat.reduceEqDiff])
   ((repeat refine Ws ?_);refine W_regionE T_ok ?_; intro Kn hKn)
   by_cases hr : aw = []
   ·subst hr
    simp (maxSteps := 1000000) only [VL,VM,↓VG,reduceIte,reduceCtorEq,zA,zB,zC,zD,zE,zF,zG,zH,zI,zJ, WM_len, WM_app, WM_at, List.map_nil]
    apply callf_eq (f := 33) (fn := Tryd.f33) (by kernel_rfl) (by rfl)
    ·exact hrow [lo, hi', 1, re, mo] _ rfl
    ((simp (maxSteps := 1000000) only [VL,VM,↓VG,reduceIte,reduceCtorEq,zA,zB,zC,zD,zE,zF,zG,zH,zI,zJ]); rw [hKn];clear hKn Kn;simp only [QV,reduceIte,reduceCtorEq,Nat.reduceEqDiff])
    ((repeat refine Ws ?_);refine W_regionE T_ok ?_; intro Kn hKn)
    ((simp (maxSteps := 1000000) only [VL,VM,↓VG,reduceIte,reduceCtorEq,zA,zB,zC,zD,zE,zF,zG,zH,zI,zJ, k2]); rw [hKn];clear hKn Kn;simp only [QV,reduceIte,reduceCtorEq,Nat.reduceEqDiff])
    refine LoopK.mk (i + 1, L3 ++ [.obj [vi lo, vi hi', vb true, .p (.sl 1 []), vi re, vi mo]]) (by simp; omega) (by simp; omega) ⟨rfl, rfl, rfl, rfl, rfl, rfl, trivial⟩ ?_
    rw [key]; try simp
   ·have hb : ((5 + aw.length) * 8 ≤ 140737488355328) = True := eq_true (by simp only at ka; omega)
    have he : (List.map intP aw).isEmpty = false := by
     rw [List.isEmpty_map]
     exact List.isEmpty_eq_false_iff.2 hr
    simp (maxSteps := 1000000) only [VL,VM,↓VG,reduceIte,reduceCtorEq,zA,zB,zC,zD,zE,zF,zG,zH,zI,zJ, he, hb, Bool.not_false, WM_len, WM_app, WM_at]
    apply callf_eq (f := 33) (fn := Tryd.f33) (by kernel_rfl) (by rfl)
    ·exact hrow (lo :: hi' :: 1 :: re :: mo :: aw) _ rfl
    ((simp (maxSteps := 1000000) only [VL,VM,↓VG,reduceIte,reduceCtorEq,zA,zB,zC,zD,zE,zF,zG,zH,zI,zJ]); rw [hKn];clear hKn Kn;simp only [QV,reduceIte,reduceCtorEq,Nat.reduceEqDiff])
    ((repeat refine Ws ?_);refine W_regionE T_ok ?_; intro Kn hKn)
    ((simp (maxSteps := 1000000) only [VL,VM,↓VG,reduceIte,reduceCtorEq,zA,zB,zC,zD,zE,zF,zG,zH,zI,zJ, k2]); rw [hKn];clear hKn Kn;simp only [QV,reduceIte,reduceCtorEq,Nat.reduceEqDiff])
    refine LoopK.mk (i + 1, L3 ++ [.obj [vi lo, vi hi', vb true, intsV aw, vi re, vi mo], .clm (5 + aw.length) 1]) (by simp; omega) (by simp; omega) ⟨rfl, rfl, rfl, rfl, rfl, rfl, trivial⟩ ?_
    rw [key]; try simp
 have k3 : ((i : Int) < (y.kinds.length : Int)) = False := eq_false (by omega)
 obtain rfl : i = y.kinds.length := by omega
 ((simp (maxSteps := 1000000) only [VL,VM,↓VG,reduceIte,reduceCtorEq,zA,zB,zC,zD,zE,zF,zG,zH,zI,zJ, k3, List.take_length]); rw [hKn];clear hKn Kn;simp only [QV,reduceIte,reduceCtorEq,Nat.reduceEqDiff])
 ((repeat refine Ws ?_);refine Wf (by first|rfl|simp only [EV,zF,reduceIte]) ?_)
 (((repeat refine Ws ?_);refine W_exit ?_); simp only [QV,reduceIte,reduceCtorEq,Nat.reduceEqDiff])
 have lq3 := lr3 y.kinds.length
 rw [List.take_length] at lq3
 obtain ⟨p4, hp4⟩ : ∃ p, p = p3 ++ kiS y.kinds := ⟨_, rfl⟩
 have n4 : p4 ≠ [] := by rw [hp4]; simp [n3]
 have m4 : p4.length ≤ 100 + 4000 := by rw [hp4, List.length_append]; omega
 rw [← hp4]
 have fe : FitL [(y.kinds.length : Int)] := sm_fit (end_sm V)
 have hp : p4.length ≤ 1000000000 := by omega
 ((repeat refine Ws ?_);refine W_regionE T_ok ?_; intro Kn hKn)
 simp (maxSteps := 1000000) only [VL,VM,↓VG,reduceIte,reduceCtorEq,zA,zB,zC,zD,zE,zF,zG,zH,zI,zJ, WM_y]
 apply callf_eq (f := 33) (fn := Tryd.f33) (by kernel_rfl) (by rfl)
 ·exact prowW (w := wEnd) (l := [(y.kinds.length : Int)]) (by simp [wEnd]) (by simp [wEnd]) (by simp) hp fe
 ((simp (maxSteps := 1000000) only [VL,VM,↓VG,reduceIte,reduceCtorEq,zA,zB,zC,zD,zE,zF,zG,zH,zI,zJ]); rw [hKn];clear hKn Kn;simp only [QV,reduceIte,reduceCtorEq,Nat.reduceEqDiff])
 ((repeat refine Ws ?_);refine W_regionE T_ok ?_; intro Kn hKn)
 simp (maxSteps := 1000000) only [VL,VM,↓VG,reduceIte,reduceCtorEq,zA,zB,zC,zD,zE,zF,zG,zH,zI,zJ]
 apply call_eq (f := 36) (fn := Tryd.f36) (by kernel_rfl) (by rfl)
 ·exact strW (by simp [rowS])
 ((simp (maxSteps := 1000000) only [VL,VM,↓VG,reduceIte,reduceCtorEq,zA,zB,zC,zD,zE,zF,zG,zH,zI,zJ]); rw [hKn];clear hKn Kn;simp only [QV,reduceIte,reduceCtorEq,Nat.reduceEqDiff])
 (repeat refine Ws ?_)
 refine W_ret ?_
 try simp only [thenQ, blockQ]
 refine own_ret2t rfl ?_ ?_ (by rfl) (by rfl)
 ·simp only [get_cons, frz, vtup, Nat.reduceEqDiff, if_true, if_false, reduceIte]
  rw [show writeT y = writeS y from if_pos h1, writeS, ← hp0, ← hp1, ← hp2, ← hp3, ← hp4]
  try simp [frz]
 ·simp only [get_cons, frz, vtup, Nat.reduceEqDiff, if_true, if_false, reduceIte]
  rw [h1]
end Go.Proofs.YtnjgdlmddlinaaaDoor.Vm

/- The numbers of the chapter's examples, all of them. -/
namespace Go.Proofs.YtnjgdlmddlinaaaDoor
open Vm
def vH : Ha := ⟨3, 2, [⟨0, 0⟩, ⟨2, 1⟩], [⟨1, 1⟩], ⟨2, 1⟩, [500, 300, 500, 200], [⟨200, 300, true, [0, 2], 90, 2⟩, ⟨100, 150, false, [1, 0], 50, 3⟩]⟩
def vL : List Pu := [⟨⟨0, 0⟩, 0⟩, ⟨⟨2, 0⟩, 1⟩]
def lH : Ha := { vH with bears := [500, 300, 500] }
def wH : Ha := { vH with bay := ⟨4, 1⟩ }
def dH : Ha := { vH with water := [⟨0, 0⟩, ⟨0, 0⟩] }
def kH : Ha := { vH with bears := [500, 300, 500, 199] }
def zH : Ha := { vH with bears := [0, 300, 500, 200] }
theorem vH_err : hallErr vH = 0 := by decide +kernel
theorem lH_err : hallErr lH = 2 := by decide +kernel
theorem wH_err : hallErr wH = 1 := by decide +kernel
theorem dH_err : hallErr dH = 4 := by decide +kernel
theorem vL_err : layoutErr vH vL = 0 := by decide +kernel
theorem vM0_err : layoutErr vH (vL ++ [⟨⟨2, 1⟩, 0⟩]) = 9 := by decide +kernel
theorem vM1_err : layoutErr vH (vL ++ [⟨⟨1, 1⟩, 1⟩]) = 11 := by decide +kernel
theorem vM2_err : layoutErr vH (vL ++ [⟨⟨1, 0⟩, 0⟩]) = 7 := by decide +kernel
theorem vM3_err : layoutErr vH (vL ++ [⟨⟨2, 0⟩, 1⟩]) = 4 := by decide +kernel
theorem vL_bears : bearsOut vH vL = 1 := by decide +kernel
theorem kH_bears : bearsOut kH [⟨⟨2, 1⟩, 0⟩] = 2 := by decide +kernel
theorem kH_err : layoutErr kH [⟨⟨2, 1⟩, 0⟩] = 0 := by decide +kernel
theorem vL_earns : earnsR vH vL = 140 := by decide +kernel
theorem vR1_err : roomErr vH [⟨⟨0, 0⟩, 0⟩] 1 = 0 := by decide +kernel
theorem vR0_err : roomErr vH [⟨⟨0, 0⟩, 0⟩] 0 = 0 := by decide +kernel
theorem vR1 : roomR vH [⟨⟨0, 0⟩, 0⟩] 1 = plsV [⟨2, 0⟩, ⟨2, 1⟩] := by
 unfold roomR
 rw [if_pos vR1_err, show roomL vH [⟨⟨0, 0⟩, 0⟩] 1 = [⟨2, 0⟩, ⟨2, 1⟩] by decide +kernel]
theorem vR0 : roomR vH [⟨⟨0, 0⟩, 0⟩] 0 = plsV [] := by
 unfold roomR
 rw [if_pos vR0_err, show roomL vH [⟨⟨0, 0⟩, 0⟩] 0 = [] by decide +kernel]
theorem zB_err : bestErr zH = 0 := by decide +kernel
theorem vB_err : bestErr vH = 0 := by decide +kernel
set_option maxRecDepth 100000 in
theorem vB : bestR vH = pusV [⟨⟨0, 0⟩, 0⟩, ⟨⟨2, 0⟩, 1⟩, ⟨⟨2, 1⟩, 1⟩] := by
 unfold bestR
 rw [if_pos vB_err, show bestL vH = [⟨⟨0, 0⟩, 0⟩, ⟨⟨2, 0⟩, 1⟩, ⟨⟨2, 1⟩, 1⟩] by decide +kernel]
theorem vLoads : loadsR vH vL = spsV [⟨200, 300⟩, ⟨100, 150⟩, ⟨0, 0⟩, ⟨0, 0⟩] := by
 unfold loadsR
 rw [if_pos vL_err, show loadsOf vH vL = [⟨200, 300⟩, ⟨100, 150⟩, ⟨0, 0⟩, ⟨0, 0⟩] by decide +kernel]
theorem vO_bears : bearsOut vH [⟨⟨2, 1⟩, 0⟩] = 3 := by decide +kernel
theorem vO_err : layoutErr vH [⟨⟨2, 1⟩, 0⟩] = 0 := by decide +kernel
set_option maxRecDepth 100000 in
theorem zB : bestR zH = pusV [⟨⟨2, 0⟩, 1⟩, ⟨⟨0, 1⟩, 1⟩, ⟨⟨2, 1⟩, 1⟩] := by
 unfold bestR
 rw [if_pos zB_err, show bestL zH = [⟨⟨2, 0⟩, 1⟩, ⟨⟨0, 1⟩, 1⟩, ⟨⟨2, 1⟩, 1⟩] by decide +kernel]
theorem vH_fin : Fin vH := ⟨by decide, by decide, by decide, by decide, by decide⟩
theorem lH_fin : Fin lH := ⟨by decide, by decide, by decide, by decide, by decide⟩
theorem wH_fin : Fin wH := ⟨by decide, by decide, by decide, by decide, by decide⟩
theorem dH_fin : Fin dH := ⟨by decide, by decide, by decide, by decide, by decide⟩
theorem kH_fin : Fin kH := ⟨by decide, by decide, by decide, by decide, by decide⟩
theorem zH_fin : Fin zH := ⟨by decide, by decide, by decide, by decide, by decide⟩
def txV : By := [104, 97, 108, 108, 32, 51, 32, 50, 32, 50, 32, 49, 10, 119, 97, 116, 101, 114, 32, 48, 32, 48, 10, 119, 97, 116, 101, 114, 32, 50, 32, 49, 10, 115, 104, 117, 116, 32, 49, 32, 49, 10, 98, 101, 97, 114, 115, 32, 53, 48, 48, 10, 98, 101, 97, 114, 115, 32, 51, 48, 48, 10, 98, 101, 97, 114, 115, 32, 53, 48, 48, 10, 98, 101, 97, 114, 115, 32, 50, 48, 48, 10, 107, 105, 110, 100, 32, 50, 48, 48, 32, 51, 48, 48, 32, 49, 32, 57, 48, 32, 50, 32, 48, 32, 50, 10, 107, 105, 110, 100, 32, 49, 48, 48, 32, 49, 53, 48, 32, 48, 32, 53, 48, 32, 51, 32, 49, 32, 48, 10, 101, 110, 100, 32, 50, 10]
theorem vH_write : writeT vH = txV := by decide +kernel
end Go.Proofs.YtnjgdlmddlinaaaDoor

/- The example hall and layout, on values. (Vm) -/
namespace Go.Proofs.YtnjgdlmddlinaaaDoor.Vm
open Go Go.Proofs
theorem vspan_v (a b : Int) (M : Mem) : VC Tryd.prog 17 [vi a, vi b] M (fun r M' => M' = M ∧ r = spV ⟨a, b⟩) := by
 refine VC_own' T_ok (f := 17) (fn := Tryd.f17) (by kernel_rfl) rfl Tryd.ntmps17 (by rfl) (by rfl) ?_
 ((repeat refine Ws ?_);refine Wr ?_)
 simp (maxSteps := 1000000) only [VL,VM,↓VG,reduceIte,reduceCtorEq,zA,zB,zC,zD,zE,zF,zG,zH,zI,zJ]
 ((repeat refine Ws ?_);refine Wr ?_)
 simp (maxSteps := 1000000) only [VL,VM,↓VG,reduceIte,reduceCtorEq,zA,zB,zC,zD,zE,zF,zG,zH,zI,zJ]
 (repeat refine Ws ?_)
 refine W_ret ?_
 try simp only [thenQ, blockQ]
 refine own_ret (vs := [spV ⟨a, b⟩]) (by simp [Tryd.f17, vresL, vload, t_span, get_cons, hget0, nat_ble, strip1]) rfl rfl ⟨rfl, rfl⟩
theorem vat_v (k x y : Int) (M : Mem) : VC Tryd.prog 9 [vi k, vi x, vi y] M (fun r M' => M' = M ∧ r = puV ⟨⟨x, y⟩, k⟩) := by
 refine VC_own' T_ok (f := 9) (fn := Tryd.f9) (by kernel_rfl) rfl Tryd.ntmps9 (by rfl) (by rfl) ?_
 ((repeat refine Ws ?_);refine Wr ?_)
 simp (maxSteps := 1000000) only [VL,VM,↓VG,reduceIte,reduceCtorEq,zA,zB,zC,zD,zE,zF,zG,zH,zI,zJ]
 ((repeat refine Ws ?_);refine Wr ?_)
 simp (maxSteps := 1000000) only [VL,VM,↓VG,reduceIte,reduceCtorEq,zA,zB,zC,zD,zE,zF,zG,zH,zI,zJ]
 (repeat refine Ws ?_)
 refine W_ret ?_
 try simp only [thenQ, blockQ]
 refine own_ret (vs := [puV ⟨⟨x, y⟩, k⟩]) (by simp [Tryd.f9, vresL, vload, t_put, get_cons, hget0, nat_ble, strip1]) rfl rfl ⟨rfl, rfl⟩
theorem hall_v (M : Mem) : VC Tryd.prog 4 [] M (fun r M' => M' = M ∧ r = hallV vH) := by
 refine VC_own' T_ok (f := 4) (fn := Tryd.f4) (by kernel_rfl) rfl Tryd.ntmps4 (by rfl) (by rfl) ?_
 ((repeat refine Ws ?_);refine Wr ?_)
 simp (maxSteps := 1000000) only [VL,VM,↓VG,reduceIte,reduceCtorEq,zA,zB,zC,zD,zE,zF,zG,zH,zI,zJ]
 ((repeat refine Ws ?_);refine Wr ?_)
 simp (maxSteps := 1000000) only [VL,VM,↓VG,reduceIte,reduceCtorEq,zA,zB,zC,zD,zE,zF,zG,zH,zI,zJ]
 apply call_eq (f := 17) (fn := Tryd.f17) (by kernel_rfl) (by rfl)
 ·exact vspan_v 200 300 _
 simp (maxSteps := 1000000) only [VL,VM,↓VG,reduceIte,reduceCtorEq,zA,zB,zC,zD,zE,zF,zG,zH,zI,zJ]
 apply call_eq (f := 17) (fn := Tryd.f17) (by kernel_rfl) (by rfl)
 ·exact vspan_v 100 150 _
 simp (maxSteps := 1000000) only [VL,VM,↓VG,reduceIte,reduceCtorEq,zA,zB,zC,zD,zE,zF,zG,zH,zI,zJ]
 (repeat refine Ws ?_)
 refine W_ret ?_
 try simp only [thenQ, blockQ]
 refine own_ret (vs := [hallV vH]) (by simp [Tryd.f4, vresL, vload, t_hall, get_cons, hget0, nat_ble, strip1]; exact ⟨rfl, rfl, rfl, rfl, rfl, rfl, rfl, rfl⟩) rfl rfl ⟨rfl, rfl⟩
theorem stalls_v (M : Mem) : VC Tryd.prog 8 [] M (fun r M' => M' = M ∧ r = pusV vL) := by
 refine VC_own' T_ok (f := 8) (fn := Tryd.f8) (by kernel_rfl) rfl Tryd.ntmps8 (by rfl) (by rfl) ?_
 ((repeat refine Ws ?_);refine Wr ?_)
 simp (maxSteps := 1000000) only [VL,VM,↓VG,reduceIte,reduceCtorEq,zA,zB,zC,zD,zE,zF,zG,zH,zI,zJ]
 ((repeat refine Ws ?_);refine Wr ?_)
 simp (maxSteps := 1000000) only [VL,VM,↓VG,reduceIte,reduceCtorEq,zA,zB,zC,zD,zE,zF,zG,zH,zI,zJ]
 apply call_eq (f := 9) (fn := Tryd.f9) (by kernel_rfl) (by rfl)
 ·exact vat_v 0 0 0 _
 simp (maxSteps := 1000000) only [VL,VM,↓VG,reduceIte,reduceCtorEq,zA,zB,zC,zD,zE,zF,zG,zH,zI,zJ]
 apply call_eq (f := 9) (fn := Tryd.f9) (by kernel_rfl) (by rfl)
 ·exact vat_v 1 2 0 _
 simp (maxSteps := 1000000) only [VL,VM,↓VG,reduceIte,reduceCtorEq,zA,zB,zC,zD,zE,zF,zG,zH,zI,zJ]
 (repeat refine Ws ?_)
 refine W_ret ?_
 try simp only [thenQ, blockQ]
 refine own_ret10 rfl ?_ (by rfl)
 simp only [get_cons, frz, vtup, Nat.reduceEqDiff, if_true, if_false, reduceIte]
 rfl
end Go.Proofs.YtnjgdlmddlinaaaDoor.Vm
