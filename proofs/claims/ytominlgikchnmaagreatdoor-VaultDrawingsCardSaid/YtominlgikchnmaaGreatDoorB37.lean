/- A part of the proofs about the chapter of the vaults; it states no condition of its own. -/
import Derived.Test.YtominlgikchnmaaGreatDoorB21
import Derived.Test.YtominlgikchnmaaGreatDoorB23
import Derived.Test.YtominlgikchnmaaGreatDoorB25
import Derived.Test.YtominlgikchnmaaGreatDoorB29
import Derived.Test.YtominlgikchnmaaGreatDoorB34
import Derived.Test.YtominlgikchnmaaGreatDoorB35
import Derived.Test.YtominlgikchnmaaGreatDoorB36
set_option linter.unusedVariables false
set_option linter.unusedSimpArgs false
open Int renaming reduceLE → zA, reduceLT → zB, reduceToNat → zC, reduceNeg → zD
open Nat renaming reduceLT → zE, reduceEqDiff → zF, reduceAdd → zG, reduceSub → zH, reduceMul → zI, reduceLeDiff → zJ
/- The law of the tape: what is written is read again, and what is read is what would be written. (Vm) -/
namespace Go.Proofs.YtominlgikchnmaaGreatDoor.Vm
open Go Go.Proofs
theorem DH_tl (M : Mem) (u : Int) (L : List VObj) : DH (M.H ++ [.dead]) M.H.length u L = M.H ++ (.obj [uv u] :: L) := by
 unfold DH
 rw [List.append_assoc]
 have := hset0 M.H ([.dead] ++ L) (.obj [uv u])
 rw [this]
 rfl
theorem shFin {h : Ha} (s : ShH h) : Fin h := ⟨by have := s.w; omega, by have := s.s; omega, by have := s.b; omega, by have := s.k; omega, fun k hk => by have := s.a k hk; omega⟩
attribute [local irreducible] castF castU fromF fromU oneF oneU
end Go.Proofs.YtominlgikchnmaaGreatDoor.Vm

/- The reference's Write, on values. (Vm) -/
namespace Go.Proofs.YtominlgikchnmaaGreatDoor.Vm
open Go Go.Proofs
set_option maxHeartbeats 4000000 in
theorem rwrite_v (y : Ha) (M : Mem) (F : Fin y) : VC Tryz.prog 10 [hallV y] M (fun r M' => M' = M ∧ r = .tup [vs (writeT y), vi (hallErr y)]) := by
 refine VC_own' T_ok (f := 10) (fn := Tryz.f10) (by kernel_rfl) rfl Tryz.ntmps10 (by rfl) (by rfl) ?_
 ((repeat refine Ws ?_);refine W_regionE T_ok ?_; intro Kn hKn)
 ((simp (maxSteps := 1000000) only [VL,VM,↓VG,reduceIte,reduceCtorEq,zA,zB,zC,zD,zE,zF,zG,zH,zI,zJ]); rw [hKn];clear hKn Kn;simp only [QV,reduceIte,reduceCtorEq,Nat.reduceEqDiff])
 ((repeat refine Ws ?_);refine W_regionE T_ok ?_; intro Kn hKn)
 simp (maxSteps := 1000000) only [VL,VM,↓VG,reduceIte,reduceCtorEq,zA,zB,zC,zD,zE,zF,zG,zH,zI,zJ]
 apply call_eq (f := 37) (fn := Tryz.f37) (by kernel_rfl) (by rfl)
 ·exact check_v y _ F
 ((simp (maxSteps := 1000000) only [VL,VM,↓VG,reduceIte,reduceCtorEq,zA,zB,zC,zD,zE,zF,zG,zH,zI,zJ]); rw [hKn];clear hKn Kn;simp only [QV,reduceIte,reduceCtorEq,Nat.reduceEqDiff])
 ((repeat refine Ws ?_);refine W_regionE T_ok ?_; intro Kn hKn)
 by_cases h1 : hallErr y = 0
 rotate_left
 ·have k1 : (hallErr y = 0) = False := eq_false h1
  ((simp (maxSteps := 1000000) only [VL,VM,↓VG,reduceIte,reduceCtorEq,zA,zB,zC,zD,zE,zF,zG,zH,zI,zJ, k1]); rw [hKn];clear hKn Kn;simp only [QV,reduceIte,reduceCtorEq,Nat.reduceEqDiff])
  ((repeat refine Ws ?_);refine Wt (by first|rfl|simp only [EV,zF,reduceIte]) ?_)
  ((repeat refine Ws ?_);refine W_regionE T_ok ?_; intro Kn hKn)
  ((simp (maxSteps := 1000000) only [VL,VM,↓VG,reduceIte,reduceCtorEq,zA,zB,zC,zD,zE,zF,zG,zH,zI,zJ]); rw [hKn];clear hKn Kn;simp only [QV,reduceIte,reduceCtorEq,Nat.reduceEqDiff])
  (repeat refine Ws ?_)
  refine W_ret ?_
  try simp only [thenQ, blockQ]
  refine own_ret2t rfl ?_ ?_ (by rfl) (by rfl)
  ·simp only [get_cons, frz, vtup, Nat.reduceEqDiff, if_true, if_false, reduceIte]
   rw [show writeT y = [] from if_neg h1]
   rfl
  ·simp only [get_cons, frz, vtup, Nat.reduceEqDiff, if_true, if_false, reduceIte]
 have V := VH.of h1
 have k1 : (hallErr y = 0) = True := eq_true h1
 obtain ⟨cw, ci⟩ := cells_in V V.water
 obtain ⟨cs, cj⟩ := cells_in V V.shut
 have cb := bears_len V
 have ck := V.kinds6
 ((simp (maxSteps := 1000000) only [VL,VM,↓VG,reduceIte,reduceCtorEq,zA,zB,zC,zD,zE,zF,zG,zH,zI,zJ, k1]); rw [hKn];clear hKn Kn;simp only [QV,reduceIte,reduceCtorEq,Nat.reduceEqDiff])
 ((repeat refine Ws ?_);refine Wf (by first|rfl|simp only [EV,zF,reduceIte]) ?_)
 (((repeat refine Ws ?_);refine W_skip ?_); simp only [QV,reduceIte,reduceCtorEq,Nat.reduceEqDiff])
 have fs : FitL (haL y) := sm_fit (ha_sm V)
 have l0 : (rowS wHall (haL y)).length ≤ 41 := rowS_short (w := wHall) (ha_sm V)
 ((repeat refine Ws ?_);refine W_regionE T_ok ?_; intro Kn hKn)
 simp (maxSteps := 1000000) only [VL,VM,↓VG,reduceIte,reduceCtorEq,zA,zB,zC,zD,zE,zF,zG,zH,zI,zJ]
 apply call_eq (f := 38) (fn := Tryz.f38) (by kernel_rfl) (by rfl)
 ·exact rrow_v wHall (haL y) _ (by simp [haL]) (by simp [wHall]) fs
 ((simp (maxSteps := 1000000) only [VL,VM,↓VG,reduceIte,reduceCtorEq,zA,zB,zC,zD,zE,zF,zG,zH,zI,zJ]); rw [hKn];clear hKn Kn;simp only [QV,reduceIte,reduceCtorEq,Nat.reduceEqDiff])
 generalize hp0 : rowS wHall (haL y) = p0 at l0 ⊢
 ((repeat refine Ws ?_);refine W_regionE T_ok ?_; intro Kn hKn)
 ((simp (maxSteps := 1000000) only [VL,VM,↓VG,reduceIte,reduceCtorEq,zA,zB,zC,zD,zE,zF,zG,zH,zI,zJ]); rw [hKn];clear hKn Kn;simp only [QV,reduceIte,reduceCtorEq,Nat.reduceEqDiff])
 have lr0 : ∀ i, (waS (y.water.take i)).length ≤ 24 * 24 := fun i => by
  have := byF_len (f := fun c => rowS wWater (plL c)) (k := 24) (l := y.water.take i) fun r hr => by
   simpa [plL, wWater] using rowS_short (w := wWater) (pl_sm ci (List.mem_of_mem_take hr))
  rw [List.length_take] at this
  unfold waS
  omega
 have lr1 : ∀ i, (shS (y.shut.take i)).length ≤ 24 * 24 := fun i => by
  have := byF_len (f := fun c => rowS wShut (plL c)) (k := 23) (l := y.shut.take i) fun r hr => by
   simpa [plL, wShut] using rowS_short (w := wShut) (pl_sm cj (List.mem_of_mem_take hr))
  rw [List.length_take] at this
  unfold shS
  omega
 have lr2 : ∀ i, (beS (y.bears.take i)).length ≤ 15 * 24 := fun i => by
  have := byF_len (f := fun n => rowS wBears [n]) (k := 15) (l := y.bears.take i) fun r hr => by
   simpa [wBears] using rowS_short (w := wBears) (be_sm V (List.mem_of_mem_take hr))
  rw [List.length_take] at this
  unfold beS
  omega
 have lr3 : ∀ i, (kiS (y.kinds.take i)).length ≤ 104 * 6 := fun i => by
  have := byF_len (f := fun k => rowS wKind (kiL k)) (k := 104) (l := y.kinds.take i) fun r hr => by
   have hm := List.mem_of_mem_take hr
   have a1 := rowS_short (w := wKind) (ki_sm (V.kind r hm))
   have a2 := ki_away V hm
   have a4 : wKind.length = 4 := rfl
   rw [kiL_len] at a1
   omega
  rw [List.length_take] at this
  unfold kiS
  omega
 ((repeat refine Ws ?_);refine W_block ?_; (repeat refine Ws ?_)); refine W_loopS (fun s : Nat × List VObj => [(1, .ptr M.H.length 0), (5, vs (p0 ++ waS (y.water.take s.1))), (6, vi s.1)]) (fun s => ⟨M.H ++ .obj (hallC y) :: s.2, M.lg⟩) (fun s => y.water.length - s.1) (fun s => s.1 ≤ y.water.length) (0, []) (Nat.zero_le _) ⟨rfl, by simp [get_cons, waS], rfl, trivial⟩ (by simp) ?_
 rintro ⟨i, L⟩ hi
 simp only at hi
 have k2 : -9223372036854775808 ≤ (i : Int) + 1 ∧ (i : Int) + 1 < 9223372036854775808 := by omega
 ((repeat refine Ws ?_);refine W_regionE T_ok ?_; intro Kn hKn)
 rcases Nat.lt_or_ge i y.water.length with hlt | hge
 ·have k3 : ((i : Int) < (y.water.length : Int)) = True := eq_true (by omega)
  have hx := map_at (f := plP) (List.getElem?_eq_getElem hlt)
  have hmem := List.getElem_mem hlt
  have key : waS (y.water.take (i + 1)) = _ := byF_take (f := fun c => rowS wWater (plL c)) hlt
  have ll := lr0 i
  generalize y.water[i] = c at hx hmem key
  have ek : (y.water.take i).flatMap (fun c => rowS wWater (plL c)) = waS (y.water.take i) := rfl
  rw [ek] at key
  generalize waS (y.water.take i) = pre at key ll ⊢
  have hs := pl_sm ci hmem
  have hw := rowS_short (w := wWater) hs
  have hw2 : (rowS wWater (plL c)).length ≤ 24 := Nat.le_trans hw (by simp [plL, wWater])
  have q1 := v_addS 9 (p0 ++ pre) (rowS wWater (plL c)) (by rw [List.length_append]; omega)
  have hrow := fun M2 => rrow_v wWater (plL c) M2 (by simp [plL]) (by simp [wWater]) (sm_fit hs)
  ((simp (maxSteps := 1000000) only [VL,VM,↓VG,reduceIte,reduceCtorEq,zA,zB,zC,zD,zE,zF,zG,zH,zI,zJ, k3]); rw [hKn];clear hKn Kn;simp only [QV,reduceIte,reduceCtorEq,Nat.reduceEqDiff])
  ((repeat refine Ws ?_);refine Wt (by first|rfl|simp only [EV,zF,reduceIte]) ?_)
  (((repeat refine Ws ?_);refine W_skip ?_); simp only [QV,reduceIte,reduceCtorEq,Nat.reduceEqDiff])
  ((repeat refine Ws ?_);refine W_block ?_)
  (repeat refine Ws ?_)
  refine W_drawE T_ok [] (by kernel_rfl) (by kernel_rfl) ?_
  intro Kn hKn
  generalize hi : mkPlan _ = infs
  cbv at hi
  subst hi
  simp (maxSteps := 1000000) only [VL,VM,↓VG,reduceIte,reduceCtorEq,zA,zB,zC,zD,zE,zF,zG,zH,zI,zJ, hx]
  apply call_d (f := 38) (fn := Tryz.f38) (by kernel_rfl) (by rfl)
  ·exact hrow _
  ((simp (maxSteps := 1000000) only [VL,VM,↓VG,reduceIte,reduceCtorEq,zA,zB,zC,zD,zE,zF,zG,zH,zI,zJ, q1]); rw [hKn];clear hKn Kn;simp only [QV,reduceIte,reduceCtorEq,Nat.reduceEqDiff])
  ((repeat refine Ws ?_);refine W_regionE T_ok ?_; intro Kn hKn)
  ((simp (maxSteps := 1000000) only [VL,VM,↓VG,reduceIte,reduceCtorEq,zA,zB,zC,zD,zE,zF,zG,zH,zI,zJ, k2]); rw [hKn];clear hKn Kn;simp only [QV,reduceIte,reduceCtorEq,Nat.reduceEqDiff])
  refine LoopK.mk (i + 1, _) (by simp; omega) (by simp; omega) ⟨rfl, ?_, rfl, trivial⟩ rfl
  rw [key]; simp [get_cons]
 have k3 : ((i : Int) < (y.water.length : Int)) = False := eq_false (by omega)
 obtain rfl : i = y.water.length := by omega
 have lrr := lr0 y.water.length
 rw [List.take_length] at lrr
 ((simp (maxSteps := 1000000) only [VL,VM,↓VG,reduceIte,reduceCtorEq,zA,zB,zC,zD,zE,zF,zG,zH,zI,zJ, k3, List.take_length]); rw [hKn];clear hKn Kn;simp only [QV,reduceIte,reduceCtorEq,Nat.reduceEqDiff])
 ((repeat refine Ws ?_);refine Wf (by first|rfl|simp only [EV,zF,reduceIte]) ?_)
 (((repeat refine Ws ?_);refine W_exit ?_); simp only [QV,reduceIte,reduceCtorEq,Nat.reduceEqDiff])
 obtain ⟨p1, hp1⟩ : ∃ q, q = p0 ++ waS y.water := ⟨_, rfl⟩
 rw [← hp1]
 have l1 : p1.length ≤ 617 := by rw [hp1, List.length_append]; omega
 ((repeat refine Ws ?_);refine W_regionE T_ok ?_; intro Kn hKn)
 ((simp (maxSteps := 1000000) only [VL,VM,↓VG,reduceIte,reduceCtorEq,zA,zB,zC,zD,zE,zF,zG,zH,zI,zJ]); rw [hKn];clear hKn Kn;simp only [QV,reduceIte,reduceCtorEq,Nat.reduceEqDiff])
 ((repeat refine Ws ?_);refine W_block ?_; (repeat refine Ws ?_)); refine W_loopS (fun s : Nat × List VObj => [(1, .ptr M.H.length 0), (5, vs (p1 ++ shS (y.shut.take s.1))), (7, vi s.1)]) (fun s => ⟨M.H ++ .obj (hallC y) :: s.2, M.lg⟩) (fun s => y.shut.length - s.1) (fun s => s.1 ≤ y.shut.length) (0, L) (Nat.zero_le _) ⟨rfl, by simp [get_cons, shS], rfl, trivial⟩ (by simp) ?_
 rintro ⟨i, L⟩ hi
 simp only at hi
 have k2 : -9223372036854775808 ≤ (i : Int) + 1 ∧ (i : Int) + 1 < 9223372036854775808 := by omega
 ((repeat refine Ws ?_);refine W_regionE T_ok ?_; intro Kn hKn)
 rcases Nat.lt_or_ge i y.shut.length with hlt | hge
 ·have k3 : ((i : Int) < (y.shut.length : Int)) = True := eq_true (by omega)
  have hx := map_at (f := plP) (List.getElem?_eq_getElem hlt)
  have hmem := List.getElem_mem hlt
  have key : shS (y.shut.take (i + 1)) = _ := byF_take (f := fun c => rowS wShut (plL c)) hlt
  have ll := lr1 i
  generalize y.shut[i] = c at hx hmem key
  have ek : (y.shut.take i).flatMap (fun c => rowS wShut (plL c)) = shS (y.shut.take i) := rfl
  rw [ek] at key
  generalize shS (y.shut.take i) = pre at key ll ⊢
  have hs := pl_sm cj hmem
  have hw := rowS_short (w := wShut) hs
  have hw2 : (rowS wShut (plL c)).length ≤ 24 := Nat.le_trans hw (by simp [plL, wShut])
  have q1 := v_addS 9 (p1 ++ pre) (rowS wShut (plL c)) (by rw [List.length_append]; omega)
  have hrow := fun M2 => rrow_v wShut (plL c) M2 (by simp [plL]) (by simp [wShut]) (sm_fit hs)
  ((simp (maxSteps := 1000000) only [VL,VM,↓VG,reduceIte,reduceCtorEq,zA,zB,zC,zD,zE,zF,zG,zH,zI,zJ, k3]); rw [hKn];clear hKn Kn;simp only [QV,reduceIte,reduceCtorEq,Nat.reduceEqDiff])
  ((repeat refine Ws ?_);refine Wt (by first|rfl|simp only [EV,zF,reduceIte]) ?_)
  (((repeat refine Ws ?_);refine W_skip ?_); simp only [QV,reduceIte,reduceCtorEq,Nat.reduceEqDiff])
  ((repeat refine Ws ?_);refine W_block ?_)
  (repeat refine Ws ?_)
  refine W_drawE T_ok [] (by kernel_rfl) (by kernel_rfl) ?_
  intro Kn hKn
  generalize hi : mkPlan _ = infs
  cbv at hi
  subst hi
  simp (maxSteps := 1000000) only [VL,VM,↓VG,reduceIte,reduceCtorEq,zA,zB,zC,zD,zE,zF,zG,zH,zI,zJ, hx]
  apply call_d (f := 38) (fn := Tryz.f38) (by kernel_rfl) (by rfl)
  ·exact hrow _
  ((simp (maxSteps := 1000000) only [VL,VM,↓VG,reduceIte,reduceCtorEq,zA,zB,zC,zD,zE,zF,zG,zH,zI,zJ, q1]); rw [hKn];clear hKn Kn;simp only [QV,reduceIte,reduceCtorEq,Nat.reduceEqDiff])
  ((repeat refine Ws ?_);refine W_regionE T_ok ?_; intro Kn hKn)
  ((simp (maxSteps := 1000000) only [VL,VM,↓VG,reduceIte,reduceCtorEq,zA,zB,zC,zD,zE,zF,zG,zH,zI,zJ, k2]); rw [hKn];clear hKn Kn;simp only [QV,reduceIte,reduceCtorEq,Nat.reduceEqDiff])
  refine LoopK.mk (i + 1, _) (by simp; omega) (by simp; omega) ⟨rfl, ?_, rfl, trivial⟩ rfl
  rw [key]; simp [get_cons]
 have k3 : ((i : Int) < (y.shut.length : Int)) = False := eq_false (by omega)
 obtain rfl : i = y.shut.length := by omega
 have lrr := lr1 y.shut.length
 rw [List.take_length] at lrr
 ((simp (maxSteps := 1000000) only [VL,VM,↓VG,reduceIte,reduceCtorEq,zA,zB,zC,zD,zE,zF,zG,zH,zI,zJ, k3, List.take_length]); rw [hKn];clear hKn Kn;simp only [QV,reduceIte,reduceCtorEq,Nat.reduceEqDiff])
 ((repeat refine Ws ?_);refine Wf (by first|rfl|simp only [EV,zF,reduceIte]) ?_)
 (((repeat refine Ws ?_);refine W_exit ?_); simp only [QV,reduceIte,reduceCtorEq,Nat.reduceEqDiff])
 obtain ⟨p2, hp2⟩ : ∃ q, q = p1 ++ shS y.shut := ⟨_, rfl⟩
 rw [← hp2]
 have l2 : p2.length ≤ 1193 := by rw [hp2, List.length_append]; omega
 ((repeat refine Ws ?_);refine W_regionE T_ok ?_; intro Kn hKn)
 ((simp (maxSteps := 1000000) only [VL,VM,↓VG,reduceIte,reduceCtorEq,zA,zB,zC,zD,zE,zF,zG,zH,zI,zJ]); rw [hKn];clear hKn Kn;simp only [QV,reduceIte,reduceCtorEq,Nat.reduceEqDiff])
 ((repeat refine Ws ?_);refine W_block ?_; (repeat refine Ws ?_)); refine W_loopS (fun s : Nat × List VObj => [(1, .ptr M.H.length 0), (5, vs (p2 ++ beS (y.bears.take s.1))), (8, vi s.1)]) (fun s => ⟨M.H ++ .obj (hallC y) :: s.2, M.lg⟩) (fun s => y.bears.length - s.1) (fun s => s.1 ≤ y.bears.length) (0, L) (Nat.zero_le _) ⟨rfl, by simp [get_cons, beS], rfl, trivial⟩ (by simp) ?_
 rintro ⟨i, L⟩ hi
 simp only at hi
 have k2 : -9223372036854775808 ≤ (i : Int) + 1 ∧ (i : Int) + 1 < 9223372036854775808 := by omega
 ((repeat refine Ws ?_);refine W_regionE T_ok ?_; intro Kn hKn)
 rcases Nat.lt_or_ge i y.bears.length with hlt | hge
 ·have k3 : ((i : Int) < (y.bears.length : Int)) = True := eq_true (by omega)
  have hx := map_at (f := intP) (List.getElem?_eq_getElem hlt)
  have hmem := List.getElem_mem hlt
  have key : beS (y.bears.take (i + 1)) = _ := byF_take (f := fun n => rowS wBears [n]) hlt
  have ll := lr2 i
  generalize y.bears[i] = n at hx hmem key
  have ek : (y.bears.take i).flatMap (fun n => rowS wBears [n]) = beS (y.bears.take i) := rfl
  rw [ek] at key
  generalize beS (y.bears.take i) = pre at key ll ⊢
  have hs := be_sm V hmem
  have hw := rowS_short (w := wBears) hs
  have hw2 : (rowS wBears [n]).length ≤ 24 := Nat.le_trans hw (by simp [wBears])
  have q1 := v_addS 9 (p2 ++ pre) (rowS wBears [n]) (by rw [List.length_append]; omega)
  have hrow := fun M2 => rrow_v wBears [n] M2 (by simp) (by simp [wBears]) (sm_fit hs)
  ((simp (maxSteps := 1000000) only [VL,VM,↓VG,reduceIte,reduceCtorEq,zA,zB,zC,zD,zE,zF,zG,zH,zI,zJ, k3]); rw [hKn];clear hKn Kn;simp only [QV,reduceIte,reduceCtorEq,Nat.reduceEqDiff])
  ((repeat refine Ws ?_);refine Wt (by first|rfl|simp only [EV,zF,reduceIte]) ?_)
  (((repeat refine Ws ?_);refine W_skip ?_); simp only [QV,reduceIte,reduceCtorEq,Nat.reduceEqDiff])
  ((repeat refine Ws ?_);refine W_block ?_)
  ((repeat refine Ws ?_);refine W_regionE T_ok ?_; intro Kn hKn)
  simp (maxSteps := 1000000) only [VL,VM,↓VG,reduceIte,reduceCtorEq,zA,zB,zC,zD,zE,zF,zG,zH,zI,zJ, hx]
  apply call_eq (f := 38) (fn := Tryz.f38) (by kernel_rfl) (by rfl)
  ·exact hrow _
  ((simp (maxSteps := 1000000) only [VL,VM,↓VG,reduceIte,reduceCtorEq,zA,zB,zC,zD,zE,zF,zG,zH,zI,zJ, q1]); rw [hKn];clear hKn Kn;simp only [QV,reduceIte,reduceCtorEq,Nat.reduceEqDiff])
  ((repeat refine Ws ?_);refine W_regionE T_ok ?_; intro Kn hKn)
  ((simp (maxSteps := 1000000) only [VL,VM,↓VG,reduceIte,reduceCtorEq,zA,zB,zC,zD,zE,zF,zG,zH,zI,zJ, k2]); rw [hKn];clear hKn Kn;simp only [QV,reduceIte,reduceCtorEq,Nat.reduceEqDiff])
  refine LoopK.mk (i + 1, _) (by simp; omega) (by simp; omega) ⟨rfl, ?_, rfl, trivial⟩ rfl
  rw [key]; simp [get_cons]
 have k3 : ((i : Int) < (y.bears.length : Int)) = False := eq_false (by omega)
 obtain rfl : i = y.bears.length := by omega
 have lrr := lr2 y.bears.length
 rw [List.take_length] at lrr
 ((simp (maxSteps := 1000000) only [VL,VM,↓VG,reduceIte,reduceCtorEq,zA,zB,zC,zD,zE,zF,zG,zH,zI,zJ, k3, List.take_length]); rw [hKn];clear hKn Kn;simp only [QV,reduceIte,reduceCtorEq,Nat.reduceEqDiff])
 ((repeat refine Ws ?_);refine Wf (by first|rfl|simp only [EV,zF,reduceIte]) ?_)
 (((repeat refine Ws ?_);refine W_exit ?_); simp only [QV,reduceIte,reduceCtorEq,Nat.reduceEqDiff])
 obtain ⟨p3, hp3⟩ : ∃ q, q = p2 ++ beS y.bears := ⟨_, rfl⟩
 rw [← hp3]
 have l3 : p3.length ≤ 1553 := by rw [hp3, List.length_append]; omega
 ((repeat refine Ws ?_);refine W_regionE T_ok ?_; intro Kn hKn)
 ((simp (maxSteps := 1000000) only [VL,VM,↓VG,reduceIte,reduceCtorEq,zA,zB,zC,zD,zE,zF,zG,zH,zI,zJ]); rw [hKn];clear hKn Kn;simp only [QV,reduceIte,reduceCtorEq,Nat.reduceEqDiff])
 ((repeat refine Ws ?_);refine W_block ?_; (repeat refine Ws ?_)); refine W_loopS (fun s : Nat × List VObj => [(1, .ptr M.H.length 0), (5, vs (p3 ++ kiS (y.kinds.take s.1))), (9, vi s.1)]) (fun s => ⟨M.H ++ .obj (hallC y) :: s.2, M.lg⟩) (fun s => y.kinds.length - s.1) (fun s => s.1 ≤ y.kinds.length) (0, L) (Nat.zero_le _) ⟨rfl, by simp [get_cons, kiS], rfl, trivial⟩ (by simp) ?_
 rintro ⟨i, L⟩ hi
 simp only at hi
 have k2 : -9223372036854775808 ≤ (i : Int) + 1 ∧ (i : Int) + 1 < 9223372036854775808 := by omega
 ((repeat refine Ws ?_);refine W_regionE T_ok ?_; intro Kn hKn)
 rcases Nat.lt_or_ge i y.kinds.length with hlt | hge
 ·have k3 : ((i : Int) < (y.kinds.length : Int)) = True := eq_true (by omega)
  have hx := map_at (f := kiP) (List.getElem?_eq_getElem hlt)
  have hmem := List.getElem_mem hlt
  have key : kiS (y.kinds.take (i + 1)) = _ := byF_take (f := fun k => rowS wKind (kiL k)) hlt
  have ll := lr3 i
  generalize y.kinds[i] = k at hx hmem key
  have ek : (y.kinds.take i).flatMap (fun k => rowS wKind (kiL k)) = kiS (y.kinds.take i) := rfl
  rw [ek] at key
  generalize kiS (y.kinds.take i) = pre at key ll ⊢
  have vk := V.kind k hmem
  have hs := ki_sm vk
  have hw := rowS_short (w := wKind) hs
  have haw := ki_away V hmem
  have hw4 : wKind.length = 4 := rfl
  rw [kiL_len] at hw
  have q1 := v_addS 9 (p3 ++ pre) (rowS wKind (kiL k)) (by rw [List.length_append]; omega)
  have hrow : ∀ (l : List Int) (M2 : Mem), l = kiL k → VC Tryz.prog 38 [vs wKind, intsV l] M2 (fun r M3 => M3 = M2 ∧ r = vs (rowS wKind (kiL k))) := by
   rintro l M2 rfl
   exact rrow_v wKind (kiL k) M2 (by rw [kiL_len]; omega) (by simp [wKind]) (sm_fit hs)
  ((simp (maxSteps := 1000000) only [VL,VM,↓VG,reduceIte,reduceCtorEq,zA,zB,zC,zD,zE,zF,zG,zH,zI,zJ, k3]); rw [hKn];clear hKn Kn;simp only [QV,reduceIte,reduceCtorEq,Nat.reduceEqDiff])
  ((repeat refine Ws ?_);refine Wt (by first|rfl|simp only [EV,zF,reduceIte]) ?_)
  (((repeat refine Ws ?_);refine W_skip ?_); simp only [QV,reduceIte,reduceCtorEq,Nat.reduceEqDiff])
  ((repeat refine Ws ?_);refine W_block ?_)
  ((repeat refine Ws ?_);refine W_regionE T_ok ?_; intro Kn hKn)
  ((simp (maxSteps := 1000000) only [VL,VM,↓VG,reduceIte,reduceCtorEq,zA,zB,zC,zD,zE,zF,zG,zH,zI,zJ, hx]); rw [hKn];clear hKn Kn;simp only [QV,reduceIte,reduceCtorEq,Nat.reduceEqDiff])
  ((repeat refine Ws ?_);refine W_regionE T_ok ?_; intro Kn hKn)
  ((simp (maxSteps := 1000000) only [VL,VM,↓VG,reduceIte,reduceCtorEq,zA,zB,zC,zD,zE,zF,zG,zH,zI,zJ]); rw [hKn];clear hKn Kn;simp only [QV,reduceIte,reduceCtorEq,Nat.reduceEqDiff])
  ((repeat refine Ws ?_);refine W_regionE T_ok ?_; intro Kn hKn)
  obtain ⟨wv, hwv⟩ : ∃ wv, wv = b01 k.water := ⟨_, rfl⟩
  have hkl : kiL k = k.lo :: k.hi :: wv :: k.rent :: k.most :: k.away := by rw [hwv]; rfl
  cases hb : k.water with
  | true =>
   rw [hb] at hwv
   have hwv1 : wv = 1 := hwv
   subst hwv1
   ((simp (maxSteps := 1000000) only [VL,VM,↓VG,reduceIte,reduceCtorEq,zA,zB,zC,zD,zE,zF,zG,zH,zI,zJ, hb]); rw [hKn];clear hKn Kn;simp only [QV,reduceIte,reduceCtorEq,Nat.reduceEqDiff])
   ((repeat refine Ws ?_);refine Wt (by first|rfl|simp only [EV,zF,reduceIte]) ?_)
   ((repeat refine Ws ?_);refine W_regionE T_ok ?_; intro Kn hKn)
   ((simp (maxSteps := 1000000) only [VL,VM,↓VG,reduceIte,reduceCtorEq,zA,zB,zC,zD,zE,zF,zG,zH,zI,zJ]); rw [hKn];clear hKn Kn;simp only [QV,reduceIte,reduceCtorEq,Nat.reduceEqDiff])
   ((repeat refine Ws ?_);refine W_regionE T_ok ?_; intro Kn hKn)
   by_cases hr : k.away = []
   ·rw [hr] at hkl
    simp (maxSteps := 1000000) only [VL,VM,↓VG,reduceIte,reduceCtorEq,zA,zB,zC,zD,zE,zF,zG,zH,zI,zJ, hr]
    apply call_eq (f := 38) (fn := Tryz.f38) (by kernel_rfl) (by rfl)
    ·exact hrow [k.lo, k.hi, 1, k.rent, k.most] _ hkl.symm
    ((simp (maxSteps := 1000000) only [VL,VM,↓VG,reduceIte,reduceCtorEq,zA,zB,zC,zD,zE,zF,zG,zH,zI,zJ, q1]); rw [hKn];clear hKn Kn;simp only [QV,reduceIte,reduceCtorEq,Nat.reduceEqDiff])
    ((repeat refine Ws ?_);refine W_regionE T_ok ?_; intro Kn hKn)
    ((simp (maxSteps := 1000000) only [VL,VM,↓VG,reduceIte,reduceCtorEq,zA,zB,zC,zD,zE,zF,zG,zH,zI,zJ, k2]); rw [hKn];clear hKn Kn;simp only [QV,reduceIte,reduceCtorEq,Nat.reduceEqDiff])
    refine LoopK.mk (i + 1, _) (by simp; omega) (by simp; omega) ⟨rfl, ?_, rfl, trivial⟩ rfl
    rw [key]; simp [get_cons]
   ·have hb5 : ((5 + k.away.length) * 8 ≤ 140737488355328) = True := eq_true (by omega)
    have he : (List.map intP k.away).isEmpty = false := by
     rw [List.isEmpty_map]
     exact List.isEmpty_eq_false_iff.2 hr
    simp (maxSteps := 1000000) only [VL,VM,↓VG,reduceIte,reduceCtorEq,zA,zB,zC,zD,zE,zF,zG,zH,zI,zJ, he, hb5, Bool.not_false]
    apply call_eq (f := 38) (fn := Tryz.f38) (by kernel_rfl) (by rfl)
    ·exact hrow (k.lo :: k.hi :: 1 :: k.rent :: k.most :: k.away) _ hkl.symm
    ((simp (maxSteps := 1000000) only [VL,VM,↓VG,reduceIte,reduceCtorEq,zA,zB,zC,zD,zE,zF,zG,zH,zI,zJ, q1]); rw [hKn];clear hKn Kn;simp only [QV,reduceIte,reduceCtorEq,Nat.reduceEqDiff])
    ((repeat refine Ws ?_);refine W_regionE T_ok ?_; intro Kn hKn)
    ((simp (maxSteps := 1000000) only [VL,VM,↓VG,reduceIte,reduceCtorEq,zA,zB,zC,zD,zE,zF,zG,zH,zI,zJ, k2]); rw [hKn];clear hKn Kn;simp only [QV,reduceIte,reduceCtorEq,Nat.reduceEqDiff])
    refine LoopK.mk (i + 1, _) (by simp; omega) (by simp; omega) ⟨rfl, ?_, rfl, trivial⟩ rfl
    rw [key]; simp [get_cons]
  | false =>
   rw [hb] at hwv
   have hwv1 : wv = 0 := hwv
   subst hwv1
   ((simp (maxSteps := 1000000) only [VL,VM,↓VG,reduceIte,reduceCtorEq,zA,zB,zC,zD,zE,zF,zG,zH,zI,zJ, hb]); rw [hKn];clear hKn Kn;simp only [QV,reduceIte,reduceCtorEq,Nat.reduceEqDiff])
   ((repeat refine Ws ?_);refine Wf (by first|rfl|simp only [EV,zF,reduceIte]) ?_)
   (((repeat refine Ws ?_);refine W_skip ?_); simp only [QV,reduceIte,reduceCtorEq,Nat.reduceEqDiff])
   ((repeat refine Ws ?_);refine W_regionE T_ok ?_; intro Kn hKn)
   by_cases hr : k.away = []
   ·rw [hr] at hkl
    simp (maxSteps := 1000000) only [VL,VM,↓VG,reduceIte,reduceCtorEq,zA,zB,zC,zD,zE,zF,zG,zH,zI,zJ, hr]
    apply call_eq (f := 38) (fn := Tryz.f38) (by kernel_rfl) (by rfl)
    ·exact hrow [k.lo, k.hi, 0, k.rent, k.most] _ hkl.symm
    ((simp (maxSteps := 1000000) only [VL,VM,↓VG,reduceIte,reduceCtorEq,zA,zB,zC,zD,zE,zF,zG,zH,zI,zJ, q1]); rw [hKn];clear hKn Kn;simp only [QV,reduceIte,reduceCtorEq,Nat.reduceEqDiff])
    ((repeat refine Ws ?_);refine W_regionE T_ok ?_; intro Kn hKn)
    ((simp (maxSteps := 1000000) only [VL,VM,↓VG,reduceIte,reduceCtorEq,zA,zB,zC,zD,zE,zF,zG,zH,zI,zJ, k2]); rw [hKn];clear hKn Kn;simp only [QV,reduceIte,reduceCtorEq,Nat.reduceEqDiff])
    refine LoopK.mk (i + 1, _) (by simp; omega) (by simp; omega) ⟨rfl, ?_, rfl, trivial⟩ rfl
    rw [key]; simp [get_cons]
   ·have hb5 : ((5 + k.away.length) * 8 ≤ 140737488355328) = True := eq_true (by omega)
    have he : (List.map intP k.away).isEmpty = false := by
     rw [List.isEmpty_map]
     exact List.isEmpty_eq_false_iff.2 hr
    simp (maxSteps := 1000000) only [VL,VM,↓VG,reduceIte,reduceCtorEq,zA,zB,zC,zD,zE,zF,zG,zH,zI,zJ, he, hb5, Bool.not_false]
    apply call_eq (f := 38) (fn := Tryz.f38) (by kernel_rfl) (by rfl)
    ·exact hrow (k.lo :: k.hi :: 0 :: k.rent :: k.most :: k.away) _ hkl.symm
    ((simp (maxSteps := 1000000) only [VL,VM,↓VG,reduceIte,reduceCtorEq,zA,zB,zC,zD,zE,zF,zG,zH,zI,zJ, q1]); rw [hKn];clear hKn Kn;simp only [QV,reduceIte,reduceCtorEq,Nat.reduceEqDiff])
    ((repeat refine Ws ?_);refine W_regionE T_ok ?_; intro Kn hKn)
    ((simp (maxSteps := 1000000) only [VL,VM,↓VG,reduceIte,reduceCtorEq,zA,zB,zC,zD,zE,zF,zG,zH,zI,zJ, k2]); rw [hKn];clear hKn Kn;simp only [QV,reduceIte,reduceCtorEq,Nat.reduceEqDiff])
    refine LoopK.mk (i + 1, _) (by simp; omega) (by simp; omega) ⟨rfl, ?_, rfl, trivial⟩ rfl
    rw [key]; simp [get_cons]
 have k3 : ((i : Int) < (y.kinds.length : Int)) = False := eq_false (by omega)
 obtain rfl : i = y.kinds.length := by omega
 have lrr := lr3 y.kinds.length
 rw [List.take_length] at lrr
 ((simp (maxSteps := 1000000) only [VL,VM,↓VG,reduceIte,reduceCtorEq,zA,zB,zC,zD,zE,zF,zG,zH,zI,zJ, k3, List.take_length]); rw [hKn];clear hKn Kn;simp only [QV,reduceIte,reduceCtorEq,Nat.reduceEqDiff])
 ((repeat refine Ws ?_);refine Wf (by first|rfl|simp only [EV,zF,reduceIte]) ?_)
 (((repeat refine Ws ?_);refine W_exit ?_); simp only [QV,reduceIte,reduceCtorEq,Nat.reduceEqDiff])
 obtain ⟨p4, hp4⟩ : ∃ q, q = p3 ++ kiS y.kinds := ⟨_, rfl⟩
 rw [← hp4]
 have l4 : p4.length ≤ 2177 := by rw [hp4, List.length_append]; omega
 have se := end_sm V
 have l2 : (rowS wEnd [(y.kinds.length : Int)]).length ≤ 13 := rowS_short (w := wEnd) se
 have q1 := v_addS 9 p4 (rowS wEnd [(y.kinds.length : Int)]) (by omega)
 ((repeat refine Ws ?_);refine W_regionE T_ok ?_; intro Kn hKn)
 simp (maxSteps := 1000000) only [VL,VM,↓VG,reduceIte,reduceCtorEq,zA,zB,zC,zD,zE,zF,zG,zH,zI,zJ]
 apply call_eq (f := 38) (fn := Tryz.f38) (by kernel_rfl) (by rfl)
 ·exact rrow_v wEnd [(y.kinds.length : Int)] _ (by simp) (by simp [wEnd]) (sm_fit se)
 ((simp (maxSteps := 1000000) only [VL,VM,↓VG,reduceIte,reduceCtorEq,zA,zB,zC,zD,zE,zF,zG,zH,zI,zJ, q1]); rw [hKn];clear hKn Kn;simp only [QV,reduceIte,reduceCtorEq,Nat.reduceEqDiff])
 (repeat refine Ws ?_)
 refine W_ret ?_
 try simp only [thenQ, blockQ]
 refine own_ret2t rfl ?_ ?_ (by rfl) (by rfl)
 ·simp only [get_cons, frz, vtup, Nat.reduceEqDiff, if_true, if_false, reduceIte]
  rw [show writeT y = writeS y from if_pos h1, writeS, hp4, hp3, hp2, hp1, hp0]
 ·simp only [get_cons, frz, vtup, Nat.reduceEqDiff, if_true, if_false, reduceIte]
  rw [h1]
end Go.Proofs.YtominlgikchnmaaGreatDoor.Vm
