/- A part of the proofs about the chapter of the doors; it states no condition of its own. -/
import Derived.Test.YtekhddlngbppkaaDoorB16
import Derived.Test.YtekhddlngbppkaaDoorB17
import Derived.Test.YtekhddlngbppkaaDoorB28
import Derived.Test.YtekhddlngbppkaaDoorB30
set_option linter.unusedVariables false
set_option linter.unusedSimpArgs false
open Int renaming reduceLE → zA, reduceLT → zB, reduceToNat → zC, reduceNeg → zD
open Nat renaming reduceLT → zE, reduceEqDiff → zF, reduceAdd → zG, reduceSub → zH, reduceMul → zI, reduceLeDiff → zJ
/- The program's Write, on values. (Vm) -/
namespace Go.Proofs.YtekhddlngbppkaaDoor.Vm
open Go Go.Proofs
def WM (H : List VObj) (y : Ho) (p : By) (L : List VObj) : List VObj := H ++ .obj (houseC y) :: .clm p.length 1 :: .bld tBld tByte (H.length + 1) p :: L
section
variable {H : List VObj} {y : Ho} {p p' : By} {L : List VObj}
theorem WM_app (X : List VObj) : WM H y p L ++ X = WM H y p (L ++ X) := by simp [WM]
theorem WM_y : (WM H y p L)[H.length]? = some (.obj (houseC y)) := by unfold WM; rw [hget0]; rfl
theorem WM_len : (WM H y p L).length = H.length + (3 + L.length) := by simp [WM]; omega
theorem WM_at (k : Nat) : (WM H y p L)[H.length + (3 + k)]? = L[k]? := by
 unfold WM
 rw [hget, show 3 + k = k + 3 by omega]
 rfl
theorem WM_set (k : Nat) (o : VObj) : (WM H y p L).set (H.length + (3 + k)) o = WM H y p (L.set k o) := by
 unfold WM
 rw [hset, show 3 + k = k + 3 by omega]
 rfl
theorem WM_bld : bldH (WM H y p L) (H.length + 2) (H.length + 1) p' = WM H y p' L := by
 unfold bldH WM
 rw [hset, hset]
 rfl
theorem WM_end : bldE (WM H y p L) (H.length + 2) (H.length + 1) p = H ++ .obj (houseC y) :: .clm (p.length + 1) 1 :: .bld tBld tByte (H.length + 1) p :: L := by
 unfold bldE WM
 rw [hset, hset]
 rfl
end
theorem prowW {w : By} {l : List Int} {H : List VObj} {y : Ho} {p : By} {L : List VObj} {lg : List (Nat × Nat)} (hw0 : w ≠ []) (hw : w.length ≤ 1000000) (hl : l.length ≤ 1000000) (hp : p.length ≤ 1000000000) (hf : FitL l) :
  VC Tryd.prog 27 [vs w, intsV l, .ptr (H.length + 2) 0] ⟨WM H y p L, lg⟩ (fun r M' => M' = ⟨WM H y (p ++ rowS w l) L, lg⟩ ∧ r = .tup []) := by
 have h := prow_v w l (H := WM H y p L) (i := H.length + 2) (j := H.length + 1) (pre := p) (lg := lg) (by omega) (by rw [WM_len]; omega) (by rw [WM_len]; omega) hw0 hw hl hp hf
 rw [WM_bld, WM_bld] at h
 exact h
theorem strW {H : List VObj} {y : Ho} {p : By} {L : List VObj} {lg : List (Nat × Nat)} (h0 : p ≠ []) :
  VC Tryd.prog 30 [.ptr (H.length + 2) 0] ⟨WM H y p L, lg⟩ (fun r M' => M' = ⟨H ++ .obj (houseC y) :: .clm (p.length + 1) 1 :: .bld tBld tByte (H.length + 1) p :: L, lg⟩ ∧ r = vs p) := by
 have h := string_v (H := WM H y p L) (i := H.length + 2) (j := H.length + 1) (l := p) (lg := lg) (by unfold WM; rw [hget]; rfl) (by unfold WM; rw [hget]; rfl) h0
 rw [WM_end] at h
 exact h
theorem sm_fit {l : List Int} (h : SmL l) : FitL l := fun n hn => by have := h n hn; omega
def writeT (y : Ho) : By := if houseErr y = 0 then writeS y else []
structure FinH (y : Ho) : Prop where
 h : y.holds.length ≤ 1000000
 d : y.doors.length ≤ 1000000
 c : y.counts.length ≤ 1000000
set_option maxHeartbeats 4000000 in
theorem pwrite_v (y : Ho) (M : Mem) (F : FinH y) : VC Tryd.prog 12 [houseV y] M (fun r M' => M' = M ∧ r = .tup [vs (writeT y), vi (houseErr y)]) := by
 refine VC_own' T_ok (f := 12) (fn := Tryd.f12) (by kernel_rfl) rfl Tryd.ntmps12 (by rfl) (by rfl) ?_
 ((repeat refine Ws ?_);refine W_regionE T_ok ?_; intro Kn hKn)
 ((simp (maxSteps := 1000000) only [VL,VM,↓VG,reduceIte,reduceCtorEq,zA,zB,zC,zD,zE,zF,zG,zH,zI,zJ]); rw [hKn];clear hKn Kn;simp only [QV,reduceIte,reduceCtorEq,Nat.reduceEqDiff])
 ((repeat refine Ws ?_);refine W_regionE T_ok ?_; intro Kn hKn)
 simp (maxSteps := 1000000) only [VL,VM,↓VG,reduceIte,reduceCtorEq,zA,zB,zC,zD,zE,zF,zG,zH,zI,zJ]
 apply call_eq (f := 8) (fn := Tryd.f8) (by kernel_rfl) (by rfl)
 ·exact check_v y _ F.h F.d F.c
 ((simp (maxSteps := 1000000) only [VL,VM,↓VG,reduceIte,reduceCtorEq,zA,zB,zC,zD,zE,zF,zG,zH,zI,zJ]); rw [hKn];clear hKn Kn;simp only [QV,reduceIte,reduceCtorEq,Nat.reduceEqDiff])
 ((repeat refine Ws ?_);refine W_regionE T_ok ?_; intro Kn hKn)
 by_cases h1 : houseErr y = 0
 rotate_left
 ·have k1 : (houseErr y = 0) = False := eq_false h1
  ((simp (maxSteps := 1000000) only [VL,VM,↓VG,reduceIte,reduceCtorEq,zA,zB,zC,zD,zE,zF,zG,zH,zI,zJ, k1]); rw [hKn];clear hKn Kn;simp only [QV,reduceIte,reduceCtorEq,Nat.reduceEqDiff])
  ((repeat refine Ws ?_);refine Wt (by first|rfl|simp only [EV,zF,reduceIte]) ?_)
  ((repeat refine Ws ?_);refine W_regionE T_ok ?_; intro Kn hKn)
  ((simp (maxSteps := 1000000) only [VL,VM,↓VG,reduceIte,reduceCtorEq,zA,zB,zC,zD,zE,zF,zG,zH,zI,zJ]); rw [hKn];clear hKn Kn;simp only [QV,reduceIte,reduceCtorEq,Nat.reduceEqDiff])
  (repeat refine Ws ?_)
  refine W_ret ?_
  try simp only [thenQ, blockQ]
  refine own_ret2t rfl ?_ ?_ (by rfl) (by rfl)
  ·simp only [get_cons, frz, vtup, Nat.reduceEqDiff, if_true, if_false, reduceIte]
   rw [show writeT y = [] from if_neg h1]
   rfl
  ·simp only [get_cons, frz, vtup, Nat.reduceEqDiff, if_true, if_false, reduceIte]
 have V := houseErr_ok.1 h1
 have k1 : (houseErr y = 0) = True := eq_true h1
 have c1 := V.n1
 have c2 := V.d1
 have c3 := V.c1
 ((simp (maxSteps := 1000000) only [VL,VM,↓VG,reduceIte,reduceCtorEq,zA,zB,zC,zD,zE,zF,zG,zH,zI,zJ, k1]); rw [hKn];clear hKn Kn;simp only [QV,reduceIte,reduceCtorEq,Nat.reduceEqDiff])
 ((repeat refine Ws ?_);refine Wf (by first|rfl|simp only [EV,zF,reduceIte]) ?_)
 (((repeat refine Ws ?_);refine W_skip ?_); simp only [QV,reduceIte,reduceCtorEq,Nat.reduceEqDiff])
 have fs : FitL (hoL y) := sm_fit (ho_sm V)
 have l0 := rowS_short (w := wHouse) (ho_sm V)
 (repeat refine Ws ?_)
 refine W_allocB T_ok (tE := tByte) t_build rfl (by decide) ?_
 refine W_eqM (M' := ⟨WM M.H y [] [], M.lg⟩) (by simp [WM]) ?_
 simp only [List.length_append, List.length_singleton, Nat.add_assoc, Nat.reduceAdd]
 ((repeat refine Ws ?_);refine W_regionE T_ok ?_; intro Kn hKn)
 ((simp (maxSteps := 1000000) only [VL,VM,↓VG,reduceIte,reduceCtorEq,zA,zB,zC,zD,zE,zF,zG,zH,zI,zJ]); rw [hKn];clear hKn Kn;simp only [QV,reduceIte,reduceCtorEq,Nat.reduceEqDiff])
 ((repeat refine Ws ?_);refine W_regionE T_ok ?_; intro Kn hKn)
 simp (maxSteps := 1000000) only [VL,VM,↓VG,reduceIte,reduceCtorEq,zA,zB,zC,zD,zE,zF,zG,zH,zI,zJ, WM_y]
 apply callf_eq (f := 27) (fn := Tryd.f27) (by kernel_rfl) (by rfl)
 ·exact prowW (w := wHouse) (l := hoL y) (by simp [wHouse]) (by simp [wHouse]) (by simp [hoL]) (by simp) fs
 ((simp (maxSteps := 1000000) only [VL,VM,↓VG,reduceIte,reduceCtorEq,zA,zB,zC,zD,zE,zF,zG,zH,zI,zJ]); rw [hKn];clear hKn Kn;simp only [QV,reduceIte,reduceCtorEq,Nat.reduceEqDiff])
 have l0' : (rowS wHouse (hoL y)).length ≤ 41 := Nat.le_trans l0 (by simp [wHouse, hoL])
 obtain ⟨p0, hp0⟩ : ∃ p, p = rowS wHouse (hoL y) := ⟨_, rfl⟩
 have n0 : p0 ≠ [] := by rw [hp0]; simp [rowS, wHouse]
 rw [← hp0] at l0' ⊢
 ((repeat refine Ws ?_);refine W_regionE T_ok ?_; intro Kn hKn)
 ((simp (maxSteps := 1000000) only [VL,VM,↓VG,reduceIte,reduceCtorEq,zA,zB,zC,zD,zE,zF,zG,zH,zI,zJ, WM_y]); rw [hKn];clear hKn Kn;simp only [QV,reduceIte,reduceCtorEq,Nat.reduceEqDiff])
 have lr0 : ∀ i, (hlS (y.holds.take i)).length ≤ 12 * 4 := fun i => by
  have := byF_len (f := fun n => rowS wHall [n]) (k := 12) (l := y.holds.take i) fun r hr => by
   simpa [wHall] using rowS_short (w := wHall) (hl_sm V (List.mem_of_mem_take hr))
  rw [List.length_take] at this
  unfold hlS
  omega
 ((repeat refine Ws ?_);refine W_block ?_; (repeat refine Ws ?_)); refine W_loopS (fun s : Nat × List VObj => [(1, .ptr M.H.length 0), (5, .ptr (M.H.length + 2) 0), (6, .fn (.func 27) [] [.ptr (M.H.length + 2) 0]), (31, intsV y.holds), (32, vi y.holds.length), (33, vi s.1)]) (fun s => ⟨WM M.H y (p0 ++ hlS (y.holds.take s.1)) s.2, M.lg⟩) (fun s => y.holds.length - s.1) (fun s => s.1 ≤ y.holds.length) (0, []) (Nat.zero_le _) ⟨rfl, rfl, rfl, rfl, rfl, rfl, trivial⟩ (by simp [hlS]) ?_
 rintro ⟨i, L0⟩ hi
 simp only at hi
 have k2 : -9223372036854775808 ≤ (i : Int) + 1 ∧ (i : Int) + 1 < 9223372036854775808 := by omega
 ((repeat refine Ws ?_);refine W_regionE T_ok ?_; intro Kn hKn)
 rcases Nat.lt_or_ge i y.holds.length with hlt | hge
 ·have k3 : ((i : Int) < (y.holds.length : Int)) = True := eq_true (by omega)
  have hx := map_at (f := intP) (List.getElem?_eq_getElem hlt)
  have hmem := List.getElem_mem hlt
  have key : hlS (y.holds.take (i + 1)) = _ := byF_take (f := fun n => rowS wHall [n]) hlt
  have ll := lr0 i
  generalize y.holds[i] = x at hx hmem key
  have ek : (y.holds.take i).flatMap (fun n => rowS wHall [n]) = hlS (y.holds.take i) := rfl
  rw [ek] at key
  generalize hlS (y.holds.take i) = pre at key ll ⊢
  have hp : (p0 ++ pre).length ≤ 1000000000 := by rw [List.length_append]; omega
  ((simp (maxSteps := 1000000) only [VL,VM,↓VG,reduceIte,reduceCtorEq,zA,zB,zC,zD,zE,zF,zG,zH,zI,zJ, k3]); rw [hKn];clear hKn Kn;simp only [QV,reduceIte,reduceCtorEq,Nat.reduceEqDiff])
  ((repeat refine Ws ?_);refine Wt (by first|rfl|simp only [EV,zF,reduceIte]) ?_)
  (((repeat refine Ws ?_);refine W_skip ?_); simp only [QV,reduceIte,reduceCtorEq,Nat.reduceEqDiff])
  ((repeat refine Ws ?_);refine W_block ?_)
  ((repeat refine Ws ?_);refine W_regionE T_ok ?_; intro Kn hKn)
  ((simp (maxSteps := 1000000) only [VL,VM,↓VG,reduceIte,reduceCtorEq,zA,zB,zC,zD,zE,zF,zG,zH,zI,zJ, hx, WM_len, WM_app, WM_at, WM_set]); rw [hKn];clear hKn Kn;simp only [QV,reduceIte,reduceCtorEq,Nat.reduceEqDiff])
  ((repeat refine Ws ?_);refine W_regionE T_ok ?_; intro Kn hKn)
  simp (maxSteps := 1000000) only [VL,VM,↓VG,reduceIte,reduceCtorEq,zA,zB,zC,zD,zE,zF,zG,zH,zI,zJ, WM_len, WM_at]
  apply callf_eq (f := 27) (fn := Tryd.f27) (by kernel_rfl) (by rfl)
  ·exact prowW (w := wHall) (l := [x]) (by simp [wHall]) (by simp [wHall]) (by simp) hp (sm_fit (hl_sm V hmem))
  ((simp (maxSteps := 1000000) only [VL,VM,↓VG,reduceIte,reduceCtorEq,zA,zB,zC,zD,zE,zF,zG,zH,zI,zJ]); rw [hKn];clear hKn Kn;simp only [QV,reduceIte,reduceCtorEq,Nat.reduceEqDiff])
  ((repeat refine Ws ?_);refine W_regionE T_ok ?_; intro Kn hKn)
  ((simp (maxSteps := 1000000) only [VL,VM,↓VG,reduceIte,reduceCtorEq,zA,zB,zC,zD,zE,zF,zG,zH,zI,zJ, k2]); rw [hKn];clear hKn Kn;simp only [QV,reduceIte,reduceCtorEq,Nat.reduceEqDiff])
  refine LoopK.mk (i + 1, L0) (by simp; omega) (by simp; omega) ⟨rfl, rfl, rfl, rfl, rfl, rfl, trivial⟩ ?_
  rw [key]; try simp
 have k3 : ((i : Int) < (y.holds.length : Int)) = False := eq_false (by omega)
 obtain rfl : i = y.holds.length := by omega
 ((simp (maxSteps := 1000000) only [VL,VM,↓VG,reduceIte,reduceCtorEq,zA,zB,zC,zD,zE,zF,zG,zH,zI,zJ, k3, List.take_length]); rw [hKn];clear hKn Kn;simp only [QV,reduceIte,reduceCtorEq,Nat.reduceEqDiff])
 ((repeat refine Ws ?_);refine Wf (by first|rfl|simp only [EV,zF,reduceIte]) ?_)
 (((repeat refine Ws ?_);refine W_exit ?_); simp only [QV,reduceIte,reduceCtorEq,Nat.reduceEqDiff])
 have lq0 := lr0 y.holds.length
 rw [List.take_length] at lq0
 obtain ⟨p1, hp1⟩ : ∃ p, p = p0 ++ hlS y.holds := ⟨_, rfl⟩
 have n1 : p1 ≠ [] := by rw [hp1]; simp [n0]
 have m1 : p1.length ≤ 148 := by rw [hp1, List.length_append]; omega
 rw [← hp1]
 ((repeat refine Ws ?_);refine W_regionE T_ok ?_; intro Kn hKn)
 ((simp (maxSteps := 1000000) only [VL,VM,↓VG,reduceIte,reduceCtorEq,zA,zB,zC,zD,zE,zF,zG,zH,zI,zJ, WM_y]); rw [hKn];clear hKn Kn;simp only [QV,reduceIte,reduceCtorEq,Nat.reduceEqDiff])
 have lr1 : ∀ i, (drS (y.doors.take i)).length ≤ 26 * 5 := fun i => by
  have := byF_len (f := fun d => rowS wDoor (doL d)) (k := 26) (l := y.doors.take i) fun r hr => by
   simpa [doL, wDoor] using rowS_short (w := wDoor) (do_sm V (List.mem_of_mem_take hr))
  rw [List.length_take] at this
  unfold drS
  omega
 ((repeat refine Ws ?_);refine W_block ?_; (repeat refine Ws ?_)); refine W_loopS (fun s : Nat × List VObj => [(1, .ptr M.H.length 0), (5, .ptr (M.H.length + 2) 0), (6, .fn (.func 27) [] [.ptr (M.H.length + 2) 0]), (43, dosV y.doors), (44, vi y.doors.length), (45, vi s.1)]) (fun s => ⟨WM M.H y (p1 ++ drS (y.doors.take s.1)) s.2, M.lg⟩) (fun s => y.doors.length - s.1) (fun s => s.1 ≤ y.doors.length) (0, L0) (Nat.zero_le _) ⟨rfl, rfl, rfl, rfl, rfl, rfl, trivial⟩ (by simp [drS]) ?_
 rintro ⟨i, L1⟩ hi
 simp only at hi
 have k2 : -9223372036854775808 ≤ (i : Int) + 1 ∧ (i : Int) + 1 < 9223372036854775808 := by omega
 ((repeat refine Ws ?_);refine W_regionE T_ok ?_; intro Kn hKn)
 rcases Nat.lt_or_ge i y.doors.length with hlt | hge
 ·have k3 : ((i : Int) < (y.doors.length : Int)) = True := eq_true (by omega)
  have hx := map_at (f := doP) (List.getElem?_eq_getElem hlt)
  have hmem := List.getElem_mem hlt
  have key : drS (y.doors.take (i + 1)) = _ := byF_take (f := fun d => rowS wDoor (doL d)) hlt
  have ll := lr1 i
  generalize y.doors[i] = x at hx hmem key
  have ek : (y.doors.take i).flatMap (fun d => rowS wDoor (doL d)) = drS (y.doors.take i) := rfl
  rw [ek] at key
  generalize drS (y.doors.take i) = pre at key ll ⊢
  have hp : (p1 ++ pre).length ≤ 1000000000 := by rw [List.length_append]; omega
  ((simp (maxSteps := 1000000) only [VL,VM,↓VG,reduceIte,reduceCtorEq,zA,zB,zC,zD,zE,zF,zG,zH,zI,zJ, k3]); rw [hKn];clear hKn Kn;simp only [QV,reduceIte,reduceCtorEq,Nat.reduceEqDiff])
  ((repeat refine Ws ?_);refine Wt (by first|rfl|simp only [EV,zF,reduceIte]) ?_)
  (((repeat refine Ws ?_);refine W_skip ?_); simp only [QV,reduceIte,reduceCtorEq,Nat.reduceEqDiff])
  ((repeat refine Ws ?_);refine W_block ?_)
  ((repeat refine Ws ?_);refine W_regionE T_ok ?_; intro Kn hKn)
  ((simp (maxSteps := 1000000) only [VL,VM,↓VG,reduceIte,reduceCtorEq,zA,zB,zC,zD,zE,zF,zG,zH,zI,zJ, hx, WM_len, WM_app, WM_at, WM_set]); rw [hKn];clear hKn Kn;simp only [QV,reduceIte,reduceCtorEq,Nat.reduceEqDiff])
  ((repeat refine Ws ?_);refine W_regionE T_ok ?_; intro Kn hKn)
  simp (maxSteps := 1000000) only [VL,VM,↓VG,reduceIte,reduceCtorEq,zA,zB,zC,zD,zE,zF,zG,zH,zI,zJ, WM_len, WM_at]
  apply callf_eq (f := 27) (fn := Tryd.f27) (by kernel_rfl) (by rfl)
  ·exact prowW (w := wDoor) (l := doL x) (by simp [wDoor]) (by simp [wDoor]) (by simp [doL]) hp (sm_fit (do_sm V hmem))
  ((simp (maxSteps := 1000000) only [VL,VM,↓VG,reduceIte,reduceCtorEq,zA,zB,zC,zD,zE,zF,zG,zH,zI,zJ]); rw [hKn];clear hKn Kn;simp only [QV,reduceIte,reduceCtorEq,Nat.reduceEqDiff])
  ((repeat refine Ws ?_);refine W_regionE T_ok ?_; intro Kn hKn)
  ((simp (maxSteps := 1000000) only [VL,VM,↓VG,reduceIte,reduceCtorEq,zA,zB,zC,zD,zE,zF,zG,zH,zI,zJ, k2]); rw [hKn];clear hKn Kn;simp only [QV,reduceIte,reduceCtorEq,Nat.reduceEqDiff])
  refine LoopK.mk (i + 1, L1 ++ [.obj [vi x.a, vi x.b, vi x.flow]]) (by simp; omega) (by simp; omega) ⟨rfl, rfl, rfl, rfl, rfl, rfl, trivial⟩ ?_
  rw [key]; try simp
 have k3 : ((i : Int) < (y.doors.length : Int)) = False := eq_false (by omega)
 obtain rfl : i = y.doors.length := by omega
 ((simp (maxSteps := 1000000) only [VL,VM,↓VG,reduceIte,reduceCtorEq,zA,zB,zC,zD,zE,zF,zG,zH,zI,zJ, k3, List.take_length]); rw [hKn];clear hKn Kn;simp only [QV,reduceIte,reduceCtorEq,Nat.reduceEqDiff])
 ((repeat refine Ws ?_);refine Wf (by first|rfl|simp only [EV,zF,reduceIte]) ?_)
 (((repeat refine Ws ?_);refine W_exit ?_); simp only [QV,reduceIte,reduceCtorEq,Nat.reduceEqDiff])
 have lq1 := lr1 y.doors.length
 rw [List.take_length] at lq1
 obtain ⟨p2, hp2⟩ : ∃ p, p = p1 ++ drS y.doors := ⟨_, rfl⟩
 have n2 : p2 ≠ [] := by rw [hp2]; simp [n1]
 have m2 : p2.length ≤ 278 := by rw [hp2, List.length_append]; omega
 rw [← hp2]
 ((repeat refine Ws ?_);refine W_regionE T_ok ?_; intro Kn hKn)
 ((simp (maxSteps := 1000000) only [VL,VM,↓VG,reduceIte,reduceCtorEq,zA,zB,zC,zD,zE,zF,zG,zH,zI,zJ, WM_y]); rw [hKn];clear hKn Kn;simp only [QV,reduceIte,reduceCtorEq,Nat.reduceEqDiff])
 have lr2 : ∀ i, (ctS (y.counts.take i)).length ≤ 48 * 24 := fun i => by
  have := byF_len (f := fun c => rowS wCount (coL c)) (k := 48) (l := y.counts.take i) fun r hr => by
   simpa [coL, wCount] using rowS_short (w := wCount) (co_sm V (List.mem_of_mem_take hr))
  rw [List.length_take] at this
  unfold ctS
  omega
 ((repeat refine Ws ?_);refine W_block ?_; (repeat refine Ws ?_)); refine W_loopS (fun s : Nat × List VObj => [(1, .ptr M.H.length 0), (5, .ptr (M.H.length + 2) 0), (6, .fn (.func 27) [] [.ptr (M.H.length + 2) 0]), (60, cosV y.counts), (61, vi y.counts.length), (62, vi s.1)]) (fun s => ⟨WM M.H y (p2 ++ ctS (y.counts.take s.1)) s.2, M.lg⟩) (fun s => y.counts.length - s.1) (fun s => s.1 ≤ y.counts.length) (0, L1) (Nat.zero_le _) ⟨rfl, rfl, rfl, rfl, rfl, rfl, trivial⟩ (by simp [ctS]) ?_
 rintro ⟨i, L2⟩ hi
 simp only at hi
 have k2 : -9223372036854775808 ≤ (i : Int) + 1 ∧ (i : Int) + 1 < 9223372036854775808 := by omega
 ((repeat refine Ws ?_);refine W_regionE T_ok ?_; intro Kn hKn)
 rcases Nat.lt_or_ge i y.counts.length with hlt | hge
 ·have k3 : ((i : Int) < (y.counts.length : Int)) = True := eq_true (by omega)
  have hx := map_at (f := coP) (List.getElem?_eq_getElem hlt)
  have hmem := List.getElem_mem hlt
  have key : ctS (y.counts.take (i + 1)) = _ := byF_take (f := fun c => rowS wCount (coL c)) hlt
  have ll := lr2 i
  generalize y.counts[i] = x at hx hmem key
  have ek : (y.counts.take i).flatMap (fun c => rowS wCount (coL c)) = ctS (y.counts.take i) := rfl
  rw [ek] at key
  generalize ctS (y.counts.take i) = pre at key ll ⊢
  have hp : (p2 ++ pre).length ≤ 1000000000 := by rw [List.length_append]; omega
  ((simp (maxSteps := 1000000) only [VL,VM,↓VG,reduceIte,reduceCtorEq,zA,zB,zC,zD,zE,zF,zG,zH,zI,zJ, k3]); rw [hKn];clear hKn Kn;simp only [QV,reduceIte,reduceCtorEq,Nat.reduceEqDiff])
  ((repeat refine Ws ?_);refine Wt (by first|rfl|simp only [EV,zF,reduceIte]) ?_)
  (((repeat refine Ws ?_);refine W_skip ?_); simp only [QV,reduceIte,reduceCtorEq,Nat.reduceEqDiff])
  ((repeat refine Ws ?_);refine W_block ?_)
  ((repeat refine Ws ?_);refine W_regionE T_ok ?_; intro Kn hKn)
  ((simp (maxSteps := 1000000) only [VL,VM,↓VG,reduceIte,reduceCtorEq,zA,zB,zC,zD,zE,zF,zG,zH,zI,zJ, hx, WM_len, WM_app, WM_at, WM_set]); rw [hKn];clear hKn Kn;simp only [QV,reduceIte,reduceCtorEq,Nat.reduceEqDiff])
  ((repeat refine Ws ?_);refine W_regionE T_ok ?_; intro Kn hKn)
  simp (maxSteps := 1000000) only [VL,VM,↓VG,reduceIte,reduceCtorEq,zA,zB,zC,zD,zE,zF,zG,zH,zI,zJ, WM_len, WM_at]
  apply callf_eq (f := 27) (fn := Tryd.f27) (by kernel_rfl) (by rfl)
  ·exact prowW (w := wCount) (l := coL x) (by simp [wCount]) (by simp [wCount]) (by simp [coL]) hp (sm_fit (co_sm V hmem))
  ((simp (maxSteps := 1000000) only [VL,VM,↓VG,reduceIte,reduceCtorEq,zA,zB,zC,zD,zE,zF,zG,zH,zI,zJ]); rw [hKn];clear hKn Kn;simp only [QV,reduceIte,reduceCtorEq,Nat.reduceEqDiff])
  ((repeat refine Ws ?_);refine W_regionE T_ok ?_; intro Kn hKn)
  ((simp (maxSteps := 1000000) only [VL,VM,↓VG,reduceIte,reduceCtorEq,zA,zB,zC,zD,zE,zF,zG,zH,zI,zJ, k2]); rw [hKn];clear hKn Kn;simp only [QV,reduceIte,reduceCtorEq,Nat.reduceEqDiff])
  refine LoopK.mk (i + 1, L2 ++ [.obj [vi x.tick, vi x.door, vi x.i.lo, vi x.i.hi, vi x.o.lo, vi x.o.hi]]) (by simp; omega) (by simp; omega) ⟨rfl, rfl, rfl, rfl, rfl, rfl, trivial⟩ ?_
  rw [key]; try simp
 have k3 : ((i : Int) < (y.counts.length : Int)) = False := eq_false (by omega)
 obtain rfl : i = y.counts.length := by omega
 ((simp (maxSteps := 1000000) only [VL,VM,↓VG,reduceIte,reduceCtorEq,zA,zB,zC,zD,zE,zF,zG,zH,zI,zJ, k3, List.take_length]); rw [hKn];clear hKn Kn;simp only [QV,reduceIte,reduceCtorEq,Nat.reduceEqDiff])
 ((repeat refine Ws ?_);refine Wf (by first|rfl|simp only [EV,zF,reduceIte]) ?_)
 (((repeat refine Ws ?_);refine W_exit ?_); simp only [QV,reduceIte,reduceCtorEq,Nat.reduceEqDiff])
 have lq2 := lr2 y.counts.length
 rw [List.take_length] at lq2
 obtain ⟨p3, hp3⟩ : ∃ p, p = p2 ++ ctS y.counts := ⟨_, rfl⟩
 have n3 : p3 ≠ [] := by rw [hp3]; simp [n2]
 have m3 : p3.length ≤ 1430 := by rw [hp3, List.length_append]; omega
 rw [← hp3]
 have fe : FitL [(y.counts.length : Int)] := sm_fit (end_sm V)
 have hp : p3.length ≤ 1000000000 := by omega
 ((repeat refine Ws ?_);refine W_regionE T_ok ?_; intro Kn hKn)
 simp (maxSteps := 1000000) only [VL,VM,↓VG,reduceIte,reduceCtorEq,zA,zB,zC,zD,zE,zF,zG,zH,zI,zJ, WM_y]
 apply callf_eq (f := 27) (fn := Tryd.f27) (by kernel_rfl) (by rfl)
 ·exact prowW (w := wEnd) (l := [(y.counts.length : Int)]) (by simp [wEnd]) (by simp [wEnd]) (by simp) hp fe
 ((simp (maxSteps := 1000000) only [VL,VM,↓VG,reduceIte,reduceCtorEq,zA,zB,zC,zD,zE,zF,zG,zH,zI,zJ]); rw [hKn];clear hKn Kn;simp only [QV,reduceIte,reduceCtorEq,Nat.reduceEqDiff])
 ((repeat refine Ws ?_);refine W_regionE T_ok ?_; intro Kn hKn)
 simp (maxSteps := 1000000) only [VL,VM,↓VG,reduceIte,reduceCtorEq,zA,zB,zC,zD,zE,zF,zG,zH,zI,zJ]
 apply call_eq (f := 30) (fn := Tryd.f30) (by kernel_rfl) (by rfl)
 ·exact strW (by simp [rowS])
 ((simp (maxSteps := 1000000) only [VL,VM,↓VG,reduceIte,reduceCtorEq,zA,zB,zC,zD,zE,zF,zG,zH,zI,zJ]); rw [hKn];clear hKn Kn;simp only [QV,reduceIte,reduceCtorEq,Nat.reduceEqDiff])
 (repeat refine Ws ?_)
 refine W_ret ?_
 try simp only [thenQ, blockQ]
 refine own_ret2t rfl ?_ ?_ (by rfl) (by rfl)
 ·simp only [get_cons, frz, vtup, Nat.reduceEqDiff, if_true, if_false, reduceIte]
  rw [show writeT y = writeS y from if_pos h1, writeS, ← hp0, ← hp1, ← hp2, ← hp3]
  try simp [frz]
 ·simp only [get_cons, frz, vtup, Nat.reduceEqDiff, if_true, if_false, reduceIte]
  rw [h1]
end Go.Proofs.YtekhddlngbppkaaDoor.Vm

/- The example house with its doors in a buffer of our own. (Vm) -/
-- TABLE TG
namespace Go.Proofs.YtekhddlngbppkaaDoor.Vm
open Go Go.Proofs
def ownS2 (T : Tab) (o : Nat → Bool) : Tab := { T with ownS := o }
section
variable {P : Program} {T : Tab} {o : Nat → Bool}
theorem ownS2_ok (h : TabOk P T) : TabOk P (ownS2 T o) := ⟨h.ty, h.fn, h.mixed⟩
theorem ownS2_ty : (ownS2 T o).ty = T.ty := rfl
theorem ownS2_fn : (ownS2 T o).fn = T.fn := rfl
theorem ownS2_bin : vbin (ownS2 T o) = vbin T := rfl
theorem ownS2_own : (ownS2 T o).own = T.own := rfl
theorem ownS2_ownS : (ownS2 T o).ownS = o := rfl
theorem ownS2_keeps : (ownS2 T o).keeps = T.keeps := rfl
end
def ownGB (t : Nat) : Bool := Nat.beq t 23
noncomputable def TG : Tab := ownS2 T ownGB
theorem TG_ok : TabOk Tryd.prog TG := ownS2_ok T_ok
theorem xG_ty : TG.ty = T.ty := ownS2_ty
theorem xG_fn : TG.fn = T.fn := ownS2_fn
theorem xG_bin : vbin TG = vbin T := ownS2_bin
theorem xG_oi : TG.own = T.own := ownS2_own
theorem xG_oc : TG.ownS 23 = true := by rw [TG, ownS2_ownS]; rfl
theorem xG_ok : TG.ownS 22 = false ∧ TG.ownS 26 = false := by rw [TG, ownS2_ownS]; exact ⟨rfl, rfl⟩
theorem xG_keeps (f : Nat) : TG.keeps f = T.keeps f := by rw [TG, ownS2_keeps]
abbrev dhC (n : Nat) : List VV := [intsV [100, 50], .bf n 0 3 3, vi 10, vi 15, vi 3, cosV hH.counts]
abbrev dhB : List VV := [vi 0, vi (-1), vi 20, vi 0, vi 1, vi 10, vi 1, vi (-1), vi 5]
theorem house_dh (M : Mem) : VC Tryd.prog 4 [] M (fun r M' => (∃ Y, M' = ⟨M.H ++ [.obj (dhC (M.H.length + 1)), .obj dhB], M.lg ++ Y⟩ ∧ ∀ e ∈ Y, M.H.length ≤ e.1) ∧ r = .agg (dhC (M.H.length + 1))) := by
 refine VC_esc TG_ok (f := 4) (fn := Tryd.f4) (by rw [xG_fn]; kernel_rfl) rfl Tryd.ntmps4 (by rfl) (by rw [xG_keeps]; rfl) ?_
 ((repeat refine Ws ?_);refine W_regionE TG_ok ?_; intro Kn hKn)
 ((simp (maxSteps := 1000000) only [xG_ty, xG_fn, xG_bin, xG_oi, xG_oc, xG_ok, VL,VM,↓VG,reduceIte,reduceCtorEq,zA,zB,zC,zD,zE,zF,zG,zH,zI,zJ]); rw [hKn];clear hKn Kn;simp only [QV,reduceIte,reduceCtorEq,Nat.reduceEqDiff])
 ((repeat refine Ws ?_);refine W_regionE TG_ok ?_; intro Kn hKn)
 simp (maxSteps := 1000000) only [xG_ty, xG_fn, xG_bin, xG_oi, xG_oc, xG_ok, VL,VM,↓VG,reduceIte,reduceCtorEq,zA,zB,zC,zD,zE,zF,zG,zH,zI,zJ, S_buildOwn, vbuildOwn]
 apply call_eq (f := 5) (fn := Tryd.f5) (by kernel_rfl) (by rfl)
 ·exact spanl_v 10 15 _
 simp (maxSteps := 1000000) only [xG_ty, xG_fn, xG_bin, xG_oi, xG_oc, xG_ok, VL,VM,↓VG,reduceIte,reduceCtorEq,zA,zB,zC,zD,zE,zF,zG,zH,zI,zJ]
 apply call_eq (f := 5) (fn := Tryd.f5) (by kernel_rfl) (by rfl)
 ·exact spanl_v 20 25 _
 simp (maxSteps := 1000000) only [xG_ty, xG_fn, xG_bin, xG_oi, xG_oc, xG_ok, VL,VM,↓VG,reduceIte,reduceCtorEq,zA,zB,zC,zD,zE,zF,zG,zH,zI,zJ]
 apply call_eq (f := 5) (fn := Tryd.f5) (by kernel_rfl) (by rfl)
 ·exact spanl_v 0 5 _
 simp (maxSteps := 1000000) only [xG_ty, xG_fn, xG_bin, xG_oi, xG_oc, xG_ok, VL,VM,↓VG,reduceIte,reduceCtorEq,zA,zB,zC,zD,zE,zF,zG,zH,zI,zJ]
 apply call_eq (f := 5) (fn := Tryd.f5) (by kernel_rfl) (by rfl)
 ·exact spanl_v 5 5 _
 simp (maxSteps := 1000000) only [xG_ty, xG_fn, xG_bin, xG_oi, xG_oc, xG_ok, VL,VM,↓VG,reduceIte,reduceCtorEq,zA,zB,zC,zD,zE,zF,zG,zH,zI,zJ]
 apply call_eq (f := 5) (fn := Tryd.f5) (by kernel_rfl) (by rfl)
 ·exact spanl_v 10 20 _
 simp (maxSteps := 1000000) only [xG_ty, xG_fn, xG_bin, xG_oi, xG_oc, xG_ok, VL,VM,↓VG,reduceIte,reduceCtorEq,zA,zB,zC,zD,zE,zF,zG,zH,zI,zJ]
 apply call_eq (f := 5) (fn := Tryd.f5) (by kernel_rfl) (by rfl)
 ·exact spanl_v 30 30 _
 ((simp (maxSteps := 1000000) only [xG_ty, xG_fn, xG_bin, xG_oi, xG_oc, xG_ok, VL,VM,↓VG,reduceIte,reduceCtorEq,zA,zB,zC,zD,zE,zF,zG,zH,zI,zJ, S_buildOwn, vbuildOwn]); rw [hKn];clear hKn Kn;simp only [QV,reduceIte,reduceCtorEq,Nat.reduceEqDiff])
 (repeat refine Ws ?_)
 refine W_ret ?_
 try simp only [thenQ, blockQ]
 obtain ⟨Y, hY, g⟩ := addLg_Y M.H.length [M.H.length + 1] M.lg
 rw [hY]
 refine ⟨.inr trivial, trivial, [.agg (dhC (M.H.length + 1))], ?_, ⟨M.H.length + 1, ?_, Nat.le_succ _⟩, ⟨Y, rfl, fun e he => ?_⟩, ?_⟩
 ·simp [vresL, Tryd.f4, get_cons, vload, xG_ty, t_house, nat_ble, hget0, strip1]
  rfl
 ·simp [vtup, frz, frzL, refs, refsL, hget]
 ·rw [(g e he).1]; exact Nat.le_refl _
 ·rfl
end Go.Proofs.YtekhddlngbppkaaDoor.Vm

/- The example house with its counts in a buffer of our own. (Vm) -/
-- TABLE TH
namespace Go.Proofs.YtekhddlngbppkaaDoor.Vm
open Go Go.Proofs
def ownHB (t : Nat) : Bool := Nat.beq t 26
noncomputable def TH : Tab := ownS2 T ownHB
theorem TH_ok : TabOk Tryd.prog TH := ownS2_ok T_ok
theorem xH_ty : TH.ty = T.ty := ownS2_ty
theorem xH_fn : TH.fn = T.fn := ownS2_fn
theorem xH_bin : vbin TH = vbin T := ownS2_bin
theorem xH_oi : TH.own = T.own := ownS2_own
theorem xH_oc : TH.ownS 26 = true := by rw [TH, ownS2_ownS]; rfl
theorem xH_ok : TH.ownS 22 = false ∧ TH.ownS 23 = false := by rw [TH, ownS2_ownS]; exact ⟨rfl, rfl⟩
theorem xH_keeps (f : Nat) : TH.keeps f = T.keeps f := by rw [TH, ownS2_keeps]
abbrev chC (n : Nat) : List VV := [intsV [100, 50], dosV hH.doors, vi 10, vi 15, vi 3, .bf n 0 3 6]
abbrev chB : List VV := [vi 0, vi 0, vi 20, vi 25, vi 0, vi 5, vi 1, vi 0, vi 5, vi 5, vi 10, vi 20, vi 2, vi 2, vi 0, vi 0, vi 30, vi 30]
theorem house_ch (M : Mem) : VC Tryd.prog 4 [] M (fun r M' => (∃ Y, M' = ⟨M.H ++ [.obj (chC (M.H.length + 1)), .obj chB], M.lg ++ Y⟩ ∧ ∀ e ∈ Y, M.H.length ≤ e.1) ∧ r = .agg (chC (M.H.length + 1))) := by
 refine VC_esc TH_ok (f := 4) (fn := Tryd.f4) (by rw [xH_fn]; kernel_rfl) rfl Tryd.ntmps4 (by rfl) (by rw [xH_keeps]; rfl) ?_
 ((repeat refine Ws ?_);refine W_regionE TH_ok ?_; intro Kn hKn)
 ((simp (maxSteps := 1000000) only [xH_ty, xH_fn, xH_bin, xH_oi, xH_oc, xH_ok, VL,VM,↓VG,reduceIte,reduceCtorEq,zA,zB,zC,zD,zE,zF,zG,zH,zI,zJ]); rw [hKn];clear hKn Kn;simp only [QV,reduceIte,reduceCtorEq,Nat.reduceEqDiff])
 ((repeat refine Ws ?_);refine W_regionE TH_ok ?_; intro Kn hKn)
 simp (maxSteps := 1000000) only [xH_ty, xH_fn, xH_bin, xH_oi, xH_oc, xH_ok, VL,VM,↓VG,reduceIte,reduceCtorEq,zA,zB,zC,zD,zE,zF,zG,zH,zI,zJ, S_buildOwn, vbuildOwn]
 apply call_eq (f := 5) (fn := Tryd.f5) (by kernel_rfl) (by rfl)
 ·exact spanl_v 10 15 _
 simp (maxSteps := 1000000) only [xH_ty, xH_fn, xH_bin, xH_oi, xH_oc, xH_ok, VL,VM,↓VG,reduceIte,reduceCtorEq,zA,zB,zC,zD,zE,zF,zG,zH,zI,zJ]
 apply call_eq (f := 5) (fn := Tryd.f5) (by kernel_rfl) (by rfl)
 ·exact spanl_v 20 25 _
 simp (maxSteps := 1000000) only [xH_ty, xH_fn, xH_bin, xH_oi, xH_oc, xH_ok, VL,VM,↓VG,reduceIte,reduceCtorEq,zA,zB,zC,zD,zE,zF,zG,zH,zI,zJ]
 apply call_eq (f := 5) (fn := Tryd.f5) (by kernel_rfl) (by rfl)
 ·exact spanl_v 0 5 _
 simp (maxSteps := 1000000) only [xH_ty, xH_fn, xH_bin, xH_oi, xH_oc, xH_ok, VL,VM,↓VG,reduceIte,reduceCtorEq,zA,zB,zC,zD,zE,zF,zG,zH,zI,zJ]
 apply call_eq (f := 5) (fn := Tryd.f5) (by kernel_rfl) (by rfl)
 ·exact spanl_v 5 5 _
 simp (maxSteps := 1000000) only [xH_ty, xH_fn, xH_bin, xH_oi, xH_oc, xH_ok, VL,VM,↓VG,reduceIte,reduceCtorEq,zA,zB,zC,zD,zE,zF,zG,zH,zI,zJ]
 apply call_eq (f := 5) (fn := Tryd.f5) (by kernel_rfl) (by rfl)
 ·exact spanl_v 10 20 _
 simp (maxSteps := 1000000) only [xH_ty, xH_fn, xH_bin, xH_oi, xH_oc, xH_ok, VL,VM,↓VG,reduceIte,reduceCtorEq,zA,zB,zC,zD,zE,zF,zG,zH,zI,zJ]
 apply call_eq (f := 5) (fn := Tryd.f5) (by kernel_rfl) (by rfl)
 ·exact spanl_v 30 30 _
 ((simp (maxSteps := 1000000) only [xH_ty, xH_fn, xH_bin, xH_oi, xH_oc, xH_ok, VL,VM,↓VG,reduceIte,reduceCtorEq,zA,zB,zC,zD,zE,zF,zG,zH,zI,zJ, S_buildOwn, vbuildOwn]); rw [hKn];clear hKn Kn;simp only [QV,reduceIte,reduceCtorEq,Nat.reduceEqDiff])
 (repeat refine Ws ?_)
 refine W_ret ?_
 try simp only [thenQ, blockQ]
 obtain ⟨Y, hY, g⟩ := addLg_Y M.H.length [M.H.length + 1] M.lg
 rw [hY]
 refine ⟨.inr trivial, trivial, [.agg (chC (M.H.length + 1))], ?_, ⟨M.H.length + 1, ?_, Nat.le_succ _⟩, ⟨Y, rfl, fun e he => ?_⟩, ?_⟩
 ·simp [vresL, Tryd.f4, get_cons, vload, xH_ty, t_house, nat_ble, hget0, strip1]
  rfl
 ·simp [vtup, frz, frzL, refs, refsL, hget]
 ·rw [(g e he).1]; exact Nat.le_refl _
 ·rfl
end Go.Proofs.YtekhddlngbppkaaDoor.Vm

/- Whether those who are inside are safe, on values. (Vm) -/
namespace Go.Proofs.YtekhddlngbppkaaDoor
def safeV (x : Sp) (av : Int) : Int × Int := if x.hi ≤ av then (1, 0) else if av < x.lo then (2, 0) else (3, 0)
noncomputable def safeR (h : Ho) (at_ ticks : Int) (closed : List Int) : Int × Int :=
 if ticksErr h at_ ticks closed = 0 then (match insideH h with
  | none => (0, 9)
  | some l => safeV (l.getD at_.toNat ⟨0, 0⟩) (admitV h ticks.toNat closed)) else (0, ticksErr h at_ ticks closed)
theorem ticksErr_ok {h : Ho} {at_ ticks : Int} {closed : List Int} : ticksErr h at_ ticks closed = 0 ↔ HV h ∧ (0 ≤ at_ ∧ at_ ≤ h.ticks) ∧ (0 ≤ ticks ∧ ticks ≤ 12) ∧ closedErr h.doors.length closed = 0 := by
 unfold ticksErr
 constructor
 ·intro e
  split at e
  ·rename_i h1
   split at e
   ·rename_i h2
    simp only [Bool.and_eq_true, inR_true] at h2
    exact ⟨houseErr_ok.1 h1, h2.1, h2.2, e⟩
   ·simp at e
  ·rename_i h1; exact absurd e h1
 ·rintro ⟨h1, h2, h3, h4⟩
  rw [if_pos (houseErr_ok.2 h1), if_pos (by simp only [Bool.and_eq_true, inR_true]; exact ⟨h2, h3⟩)]
  exact h4
theorem insideH_len {h : Ho} {l : List Sp} (hi : insideH h = some l) : l.length = h.ticks.toNat + 1 := by
 unfold insideH at hi
 split at hi
 ·cases hi
 ·have := Option.some.inj hi
  rw [← this]
  simp [insideL]
end Go.Proofs.YtekhddlngbppkaaDoor
namespace Go.Proofs.YtekhddlngbppkaaDoor.Vm
open Go Go.Proofs
set_option maxHeartbeats 1000000 in
set_option maxRecDepth 8000 in
theorem Safe_v (h : Ho) (at_ ticks : Int) (closed : List Int) (M : Mem) (hl : h.holds.length ≤ 1000000) (hld : h.doors.length ≤ 1000000) (hlc : h.counts.length ≤ 1000000) (hc : closed.length ≤ 1000000) : VC Tryd.prog 11 [houseV h, vi at_, vi ticks, intsV closed] M (fun r M' => M' = M ∧ r = .tup [vi (safeR h at_ ticks closed).1, vi (safeR h at_ ticks closed).2]) := by
 refine VC_own' T_ok (f := 11) (fn := Tryd.f11) (by kernel_rfl) rfl Tryd.ntmps11 (by rfl) (by rfl) ?_
 ((repeat refine Ws ?_);refine Wr ?_)
 simp (maxSteps := 1000000) only [VL,VM,↓VG,reduceIte,reduceCtorEq,zA,zB,zC,zD,zE,zF,zG,zH,zI,zJ]
 ((repeat refine Ws ?_);refine Wr ?_)
 simp (maxSteps := 1000000) only [VL,VM,↓VG,reduceIte,reduceCtorEq,zA,zB,zC,zD,zE,zF,zG,zH,zI,zJ]
 apply call_eq (f := 25) (fn := Tryd.f25) (by kernel_rfl) (by rfl)
 ·exact ticks_v h at_ ticks closed _ hl hld hlc hc
 simp (maxSteps := 1000000) only [VL,VM,↓VG,reduceIte,reduceCtorEq,zA,zB,zC,zD,zE,zF,zG,zH,zI,zJ]
 ((repeat refine Ws ?_);refine Wr ?_)
 by_cases a1 : ticksErr h at_ ticks closed = 0
 rotate_left
 ·simp (maxSteps := 1000000) only [VL,VM,↓VG,reduceIte,reduceCtorEq,zA,zB,zC,zD,zE,zF,zG,zH,zI,zJ, a1]
  ((repeat refine Ws ?_);refine Wt (by first|rfl|simp only [EV,zF,reduceIte]) ?_)
  ((repeat refine Ws ?_);refine Wr ?_)
  simp (maxSteps := 1000000) only [VL,VM,↓VG,reduceIte,reduceCtorEq,zA,zB,zC,zD,zE,zF,zG,zH,zI,zJ]
  (repeat refine Ws ?_)
  refine W_ret ?_
  try simp only [thenQ, blockQ]
  refine own_ret2 rfl rfl rfl ?_ ?_
  ·unfold safeR; rw [if_neg a1]
  ·unfold safeR; rw [if_neg a1]
 obtain ⟨HV, h2, h3, h4⟩ := ticksErr_ok.1 a1
 have eR : safeR h at_ ticks closed = (match insideH h with
  | none => (0, 9)
  | some l => safeV (l.getD at_.toNat ⟨0, 0⟩) (admitV h ticks.toNat closed)) := by unfold safeR; rw [if_pos a1]
 obtain ⟨n, rfl⟩ : ∃ n : Nat, ticks = (n : Int) := ⟨ticks.toNat, by omega⟩
 obtain ⟨m, rfl⟩ : ∃ m : Nat, at_ = (m : Int) := ⟨at_.toNat, by omega⟩
 simp (maxSteps := 1000000) only [VL,VM,↓VG,reduceIte,reduceCtorEq,zA,zB,zC,zD,zE,zF,zG,zH,zI,zJ, a1]
 ((repeat refine Ws ?_);refine Wf (by first|rfl|simp only [EV,zF,reduceIte]) ?_)
 ((repeat refine Ws ?_);refine W_skip ?_)
 simp (maxSteps := 1000000) only [VL,VM,↓VG,reduceIte,reduceCtorEq,zA,zB,zC,zD,zE,zF,zG,zH,zI,zJ]
 ((repeat refine Ws ?_);refine Wr ?_)
 simp (maxSteps := 1000000) only [VL,VM,↓VG,reduceIte,reduceCtorEq,zA,zB,zC,zD,zE,zF,zG,zH,zI,zJ]
 apply call_eq (f := 13) (fn := Tryd.f13) (by kernel_rfl) (by rfl)
 ·exact inside_v h HV _
 unfold insR
 cases hi : insideH h with
 | none =>
  rw [hi] at eR
  simp (maxSteps := 1000000) only [VL,VM,↓VG,reduceIte,reduceCtorEq,zA,zB,zC,zD,zE,zF,zG,zH,zI,zJ]
  ((repeat refine Ws ?_);refine Wr ?_)
  simp (maxSteps := 1000000) only [VL,VM,↓VG,reduceIte,reduceCtorEq,zA,zB,zC,zD,zE,zF,zG,zH,zI,zJ]
  ((repeat refine Ws ?_);refine Wt (by first|rfl|simp only [EV,zF,reduceIte]) ?_)
  ((repeat refine Ws ?_);refine Wr ?_)
  simp (maxSteps := 1000000) only [VL,VM,↓VG,reduceIte,reduceCtorEq,zA,zB,zC,zD,zE,zF,zG,zH,zI,zJ]
  (repeat refine Ws ?_)
  refine W_ret ?_
  try simp only [thenQ, blockQ]
  refine own_ret2 rfl rfl rfl ?_ ?_
  ·rw [eR]
  ·rw [eR]
 | some l =>
  rw [hi] at eR
  have hln := insideH_len hi
  simp only [Int.toNat_natCast] at eR
  have hx : l[m]? = some (l.getD m ⟨0, 0⟩) := by rw [List.getD_eq_getElem?_getD, List.getElem?_eq_getElem (by omega)]; rfl
  obtain ⟨x, hxe⟩ : ∃ x, x = l.getD m ⟨0, 0⟩ := ⟨_, rfl⟩
  rw [← hxe] at hx eR
  have hx' := map_at (f := spP) hx
  obtain ⟨av, hav⟩ : ∃ av, av = admitV h n closed := ⟨_, rfl⟩
  rw [← hav] at eR
  unfold safeV at eR
  simp (maxSteps := 1000000) only [VL,VM,↓VG,reduceIte,reduceCtorEq,zA,zB,zC,zD,zE,zF,zG,zH,zI,zJ]
  ((repeat refine Ws ?_);refine Wr ?_)
  simp (maxSteps := 1000000) only [VL,VM,↓VG,reduceIte,reduceCtorEq,zA,zB,zC,zD,zE,zF,zG,zH,zI,zJ]
  ((repeat refine Ws ?_);refine Wf (by first|rfl|simp only [EV,zF,reduceIte]) ?_)
  ((repeat refine Ws ?_);refine W_skip ?_)
  simp (maxSteps := 1000000) only [VL,VM,↓VG,reduceIte,reduceCtorEq,zA,zB,zC,zD,zE,zF,zG,zH,zI,zJ]
  ((repeat refine Ws ?_);refine Wr ?_)
  simp (maxSteps := 1000000) only [VL,VM,↓VG,reduceIte,reduceCtorEq,zA,zB,zC,zD,zE,zF,zG,zH,zI,zJ]
  apply call_eq (f := 26) (fn := Tryd.f26) (by kernel_rfl) (by rfl)
  ·exact admit_v h HV n closed _ (by omega) hc
  rw [← hav]
  simp (maxSteps := 1000000) only [VL,VM,↓VG,reduceIte,reduceCtorEq,zA,zB,zC,zD,zE,zF,zG,zH,zI,zJ]
  ((repeat refine Ws ?_);refine W_block ?_)
  ((repeat refine Ws ?_);refine Wr ?_)
  by_cases b1 : x.hi ≤ av
  ·have q1 : (x.hi ≤ av) = True := eq_true b1
   rw [if_pos b1] at eR
   simp (maxSteps := 1000000) only [VL,VM,↓VG,reduceIte,reduceCtorEq,zA,zB,zC,zD,zE,zF,zG,zH,zI,zJ, hx', q1]
   ((repeat refine Ws ?_);refine Wt (by first|rfl|simp only [EV,zF,reduceIte]) ?_)
   ((repeat refine Ws ?_);refine Wr ?_)
   simp (maxSteps := 1000000) only [VL,VM,↓VG,reduceIte,reduceCtorEq,zA,zB,zC,zD,zE,zF,zG,zH,zI,zJ]
   (repeat refine Ws ?_)
   refine W_ret ?_
   try simp only [thenQ, blockQ]
   refine own_ret2 rfl rfl rfl ?_ ?_
   ·rw [eR]
   ·rw [eR]
  have q1 : (x.hi ≤ av) = False := eq_false b1
  rw [if_neg b1] at eR
  simp (maxSteps := 1000000) only [VL,VM,↓VG,reduceIte,reduceCtorEq,zA,zB,zC,zD,zE,zF,zG,zH,zI,zJ, hx', q1]
  ((repeat refine Ws ?_);refine Wf (by first|rfl|simp only [EV,zF,reduceIte]) ?_)
  ((repeat refine Ws ?_);refine Wr ?_)
  by_cases b2 : av < x.lo
  ·have q2 : (av < x.lo) = True := eq_true b2
   rw [if_pos b2] at eR
   simp (maxSteps := 1000000) only [VL,VM,↓VG,reduceIte,reduceCtorEq,zA,zB,zC,zD,zE,zF,zG,zH,zI,zJ, hx', q2]
   ((repeat refine Ws ?_);refine Wt (by first|rfl|simp only [EV,zF,reduceIte]) ?_)
   ((repeat refine Ws ?_);refine Wr ?_)
   simp (maxSteps := 1000000) only [VL,VM,↓VG,reduceIte,reduceCtorEq,zA,zB,zC,zD,zE,zF,zG,zH,zI,zJ]
   (repeat refine Ws ?_)
   refine W_ret ?_
   try simp only [thenQ, blockQ]
   refine own_ret2 rfl rfl rfl ?_ ?_
   ·rw [eR]
   ·rw [eR]
  have q2 : (av < x.lo) = False := eq_false b2
  rw [if_neg b2] at eR
  simp (maxSteps := 1000000) only [VL,VM,↓VG,reduceIte,reduceCtorEq,zA,zB,zC,zD,zE,zF,zG,zH,zI,zJ, hx', q2]
  ((repeat refine Ws ?_);refine Wf (by first|rfl|simp only [EV,zF,reduceIte]) ?_)
  ((repeat refine Ws ?_);refine W_skip ?_)
  simp (maxSteps := 1000000) only [VL,VM,↓VG,reduceIte,reduceCtorEq,zA,zB,zC,zD,zE,zF,zG,zH,zI,zJ]
  ((repeat refine Ws ?_);refine Wr ?_)
  simp (maxSteps := 1000000) only [VL,VM,↓VG,reduceIte,reduceCtorEq,zA,zB,zC,zD,zE,zF,zG,zH,zI,zJ]
  (repeat refine Ws ?_)
  refine W_ret ?_
  try simp only [thenQ, blockQ]
  refine own_ret2 rfl rfl rfl ?_ ?_
  ·rw [eR]
  ·rw [eR]
end Go.Proofs.YtekhddlngbppkaaDoor.Vm
