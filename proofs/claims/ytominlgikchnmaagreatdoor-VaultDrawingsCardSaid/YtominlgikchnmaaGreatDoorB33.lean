/- A part of the proofs about the chapter of the vaults; it states no condition of its own. -/
import Derived.Test.YtominlgikchnmaaGreatDoorB26
import Derived.Test.YtominlgikchnmaaGreatDoorB27
import Derived.Test.YtominlgikchnmaaGreatDoorB29
import Derived.Test.YtominlgikchnmaaGreatDoorB32
import Derived.Lib.Builder
import Derived.Shelf.Strings.BuilderK
set_option linter.unusedVariables false
set_option linter.unusedSimpArgs false
open Int renaming reduceLE → zA, reduceLT → zB, reduceToNat → zC, reduceNeg → zD
open Nat renaming reduceLT → zE, reduceEqDiff → zF, reduceAdd → zG, reduceSub → zH, reduceMul → zI, reduceLeDiff → zJ
/- The program's take, on values. (Vm) -/
namespace Go.Proofs.YtominlgikchnmaaGreatDoor.Vm
open Go Go.Proofs
def PMc (H : List VObj) (cs : List VV) (a b c d : Nat) (L : List VObj) : List VObj := H ++ .obj cs :: .clm a 2 :: .clm b 2 :: .clm c 1 :: .clm d 6 :: L
abbrev yD (n : Nat) (y : Ha) : List VV := [vi y.wide, vi y.deep, .so (n + 1) 2 (y.water.map plP), .so (n + 2) 2 (y.shut.map plP), vi y.bay.x, vi y.bay.y, .so (n + 3) 1 (y.bears.map intP), .so (n + 4) 6 (y.kinds.map kiP)]
abbrev PM (H : List VObj) (y : Ha) (L : List VObj) : List VObj := PMc H (yD H.length y) y.water.length y.shut.length y.bears.length y.kinds.length L
section
variable {H : List VObj} {cs cs' : List VV} {a b c d k : Nat} {L : List VObj}
theorem PM_app (X : List VObj) : PMc H cs a b c d L ++ X = PMc H cs a b c d (L ++ X) := by simp [PMc]
theorem PM_0 : (PMc H cs a b c d L)[H.length]? = some (.obj cs) := by unfold PMc; rw [hget0]; rfl
theorem PM_1 : (PMc H cs a b c d L)[H.length + 1]? = some (.clm a 2) := by unfold PMc; rw [hget]; rfl
theorem PM_2 : (PMc H cs a b c d L)[H.length + 2]? = some (.clm b 2) := by unfold PMc; rw [hget]; rfl
theorem PM_3 : (PMc H cs a b c d L)[H.length + 3]? = some (.clm c 1) := by unfold PMc; rw [hget]; rfl
theorem PM_4 : (PMc H cs a b c d L)[H.length + 4]? = some (.clm d 6) := by unfold PMc; rw [hget]; rfl
theorem PM_at (j : Nat) : (PMc H cs a b c d L)[H.length + (5 + j)]? = L[j]? := by unfold PMc; rw [hget, show 5 + j = j + 5 by omega]; rfl
theorem PM_s0 : (PMc H cs a b c d L).set H.length (.obj cs') = PMc H cs' a b c d L := by unfold PMc; rw [hset0]; rfl
theorem PM_s1 : (PMc H cs a b c d L).set (H.length + 1) (.clm k 2) = PMc H cs k b c d L := by unfold PMc; rw [hset]; rfl
theorem PM_s2 : (PMc H cs a b c d L).set (H.length + 2) (.clm k 2) = PMc H cs a k c d L := by unfold PMc; rw [hset]; rfl
theorem PM_s3 : (PMc H cs a b c d L).set (H.length + 3) (.clm k 1) = PMc H cs a b k d L := by unfold PMc; rw [hset]; rfl
theorem PM_s4 : (PMc H cs a b c d L).set (H.length + 4) (.clm k 6) = PMc H cs a b c k L := by unfold PMc; rw [hset]; rfl
theorem PM_len : (PMc H cs a b c d L).length = H.length + (5 + L.length) := by simp [PMc]; omega
end
abbrev LG4 (n : Nat) : List (Nat × Nat) := [(n, n + 1), (n, n + 2), (n, n + 3), (n, n + 4)]
theorem addLg_in {n j : Nat} {lg : List (Nat × Nat)} (h : (n, j) ∈ lg) : addLg n [j] lg = lg := by
 have hb : (lg.any fun e => Nat.beq e.1 n && Nat.beq e.2 j) = true := List.any_eq_true.2 ⟨_, h, by simp⟩
 unfold addLg
 simp [hb]
theorem one {l : List Int} (h : l.length = 1) : ∃ a, l = [a] := by
 match l, h with
 | [a], _ => exact ⟨a, rfl⟩
theorem twoL {l : List Int} (h : l.length = 2) : ∃ a b, l = [a, b] := by
 match l, h with
 | [a, b], _ => exact ⟨a, b, rfl⟩
theorem five {l : List Int} (h : 5 ≤ l.length) : ∃ a b c d g r, l = a :: b :: c :: d :: g :: r := by
 match l, h with
 | a :: b :: c :: d :: g :: r, _ => exact ⟨a, b, c, d, g, r, rfl⟩
theorem own_retM {f : Nat} {fn : Func} {H H1 : List VObj} {lg : List (Nat × Nat)} {e : Env} {t : Nat} {X : VV} (h1 : fn.results.toList = [.tmp t]) (hl : H1.length = H.length) (hr : frz H.length H1 (get e t) = X) (h2 : refs X = []) : ownQ T f fn ⟨H, lg⟩ (fun r M' => M' = ⟨H1, lg⟩ ∧ r = X) .ret e ⟨H1, lg⟩ [] :=
 ⟨.inr rfl, rfl, ⟨[], by simp, by simp⟩, H1, [], by simp, hl, [get e t], by rw [h1]; rfl, X, hr, by simp [h2], rfl, rfl⟩
def putY (y : Ha) : Option (Ha × Bool) → Ha
 | some p => p.1
 | none => y
theorem timely_bad {y : Ha} {w : By} {l : List Int} (h : timelyB y w = false) : rsPut 1 y w l = none := by
 unfold timelyB at h
 unfold rsPut
 rw [if_neg (by omega)]
 split at h
 ·rename_i hw
  subst hw
  simp only [Bool.and_eq_false_imp, decide_eq_true_eq, decide_eq_false_iff_not] at h
  rw [if_neg (by rintro ⟨-, -, h2⟩; exact h (by omega) (by omega) (by omega)), if_neg (fun e => absurd e.1 (by decide)), if_neg (fun e => absurd e.1 (by decide)), if_neg (fun e => absurd e.1 (by decide)), if_neg (fun e => absurd e.1 (by decide))]
 ·split at h
  ·rename_i hw
   subst hw
   simp only [Bool.and_eq_false_imp, decide_eq_true_eq, decide_eq_false_iff_not] at h
   rw [if_neg (fun e => absurd e.1 (by decide)), if_neg (by rintro ⟨-, -, h2⟩; exact h (by omega) (by omega)), if_neg (fun e => absurd e.1 (by decide)), if_neg (fun e => absurd e.1 (by decide)), if_neg (fun e => absurd e.1 (by decide))]
  ·split at h
   ·rename_i hw
    subst hw
    simp only [decide_eq_false_iff_not] at h
    rw [if_neg (fun e => absurd e.1 (by decide)), if_neg (fun e => absurd e.1 (by decide)), if_neg (by rintro ⟨-, -, h2⟩; exact h (by omega)), if_neg (fun e => absurd e.1 (by decide)), if_neg (fun e => absurd e.1 (by decide))]
   ·cases h
theorem timely_wa {y : Ha} (h : timelyB y wWater = true) : y.shut.length + y.bears.length + y.kinds.length = 0 := by
 unfold timelyB at h
 rw [if_pos rfl] at h
 simp only [Bool.and_eq_true, decide_eq_true_eq] at h
 omega
theorem timely_sh {y : Ha} (h : timelyB y wShut = true) : y.bears.length + y.kinds.length = 0 := by
 unfold timelyB at h
 rw [if_neg (by decide), if_pos rfl] at h
 simp only [Bool.and_eq_true, decide_eq_true_eq] at h
 omega
theorem timely_be {y : Ha} (h : timelyB y wBears = true) : y.kinds.length = 0 := by
 unfold timelyB at h
 rw [if_neg (by decide), if_neg (by decide), if_pos rfl] at h
 simpa using h
set_option maxHeartbeats 8000000 in
theorem take_v (y : Ha) (w : By) (l : List Int) (H L : List VObj) (lg : List (Nat × Nat)) (g1 : (H.length, H.length + 1) ∈ lg) (g2 : (H.length, H.length + 2) ∈ lg) (g3 : (H.length, H.length + 3) ∈ lg) (g4 : (H.length, H.length + 4) ∈ lg) (hs : RsOk 100000 y) (hl : l.length ≤ 100000) (hw : w ≠ wEnd) :
  VC Tryz.prog 42 [.ptr H.length 0, vs w, intsV l] ⟨PM H y L, lg⟩ (fun r M' => M' = ⟨PM H (putY y (rsPut 1 y w l)) L, lg⟩ ∧ r = vb (rsPut 1 y w l).isSome) := by
 have s1 := hs.w
 have s2 := hs.s
 have s3 := hs.b
 have s4 := hs.c
 refine VC_own' T_ok (f := 42) (fn := Tryz.f42) (by kernel_rfl) rfl Tryz.ntmps42 (by rfl) (by rfl) ?_
 ((repeat refine Ws ?_);refine W_regionE T_ok ?_; intro Kn hKn)
 ((simp (maxSteps := 1000000) only [VL,VM,↓VG,reduceIte,reduceCtorEq,zA,zB,zC,zD,zE,zF,zG,zH,zI,zJ]); rw [hKn];clear hKn Kn;simp only [QV,reduceIte,reduceCtorEq,Nat.reduceEqDiff])
 ((repeat refine Ws ?_);refine W_block ?_)
 ((repeat refine Ws ?_);refine W_regionE T_ok ?_; intro Kn hKn)
 simp (maxSteps := 1000000) only [VL,VM,↓VG,reduceIte,reduceCtorEq,zA,zB,zC,zD,zE,zF,zG,zH,zI,zJ, PM_0]
 apply call_eq (f := 70) (fn := Tryz.f70) (by kernel_rfl) (by rfl)
 ·exact timely_v y w _
 ((simp (maxSteps := 1000000) only [VL,VM,↓VG,reduceIte,reduceCtorEq,zA,zB,zC,zD,zE,zF,zG,zH,zI,zJ]); rw [hKn];clear hKn Kn;simp only [QV,reduceIte,reduceCtorEq,Nat.reduceEqDiff])
 cases ht : timelyB y w with
 | false =>
  ((repeat refine Ws ?_);refine Wt (by first|rfl|simp only [EV,zF,reduceIte]) ?_)
  ((repeat refine Ws ?_);refine W_regionE T_ok ?_; intro Kn hKn)
  ((simp (maxSteps := 1000000) only [VL,VM,↓VG,reduceIte,reduceCtorEq,zA,zB,zC,zD,zE,zF,zG,zH,zI,zJ]); rw [hKn];clear hKn Kn;simp only [QV,reduceIte,reduceCtorEq,Nat.reduceEqDiff])
  rw [timely_bad ht]
  (repeat refine Ws ?_)
  refine W_ret ?_
  try simp only [thenQ, blockQ]
  refine own_retM rfl rfl ?_ (by rfl)
  simp only [get_cons, frz, vtup, Nat.reduceEqDiff, if_true, if_false, reduceIte]
  rfl
 | true =>
 ((repeat refine Ws ?_);refine Wf (by first|rfl|simp only [EV,zF,reduceIte]) ?_)
 have a1 := addLg_in g1
 have a2 := addLg_in g2
 have a3 := addLg_in g3
 have a4 := addLg_in g4
 have bad : ¬ (w = wWater ∧ l.length = 2) → ¬ (w = wShut ∧ l.length = 2) → ¬ (w = wBears ∧ l.length = 1) → ¬ (w = wKind ∧ 5 ≤ l.length ∧ l.getD 2 0 < 2) → rsPut 1 y w l = none := fun h1 h2 h3 h4 => by
  unfold rsPut
  rw [if_neg (by omega), if_neg (fun e => h1 ⟨e.1, e.2.1⟩), if_neg (fun e => h2 ⟨e.1, e.2.1⟩), if_neg (fun e => h3 ⟨e.1, e.2.1⟩), if_neg h4, if_neg (fun e => hw e.1)]
 by_cases h0 : w = wWater
 ·have k0 : (w = wWater) = True := eq_true h0
  have k1 : (w = wShut) = False := eq_false (by rw [h0]; decide)
  have k2 : (w = wBears) = False := eq_false (by rw [h0]; decide)
  have k3 : (w = wKind) = False := eq_false (by rw [h0]; decide)
  by_cases hl2 : l.length = 2
  ·have kl : ((l.length : Int) = 2) = True := eq_true (by omega)
   ((repeat refine Ws ?_);refine W_regionE T_ok ?_; intro Kn hKn)
   ((simp (maxSteps := 1000000) only [VL,VM,↓VG,reduceIte,reduceCtorEq,zA,zB,zC,zD,zE,zF,zG,zH,zI,zJ, litWater, litShut, litBears, litKind, v_eqS, k0, kl]); rw [hKn];clear hKn Kn;simp only [QV,reduceIte,reduceCtorEq,Nat.reduceEqDiff])
   ((repeat refine Ws ?_);refine Wt (by first|rfl|simp only [EV,zF,reduceIte]) ?_)
   obtain ⟨a, c, rfl⟩ := twoL hl2
   have q1 : ((y.water.length + 1) * 16 ≤ 140737488355328) = True := eq_true (by omega)
   subst h0
   have tm := timely_wa ht
   (repeat refine Ws ?_)
   refine W_drawE T_ok [] (by kernel_rfl) (by kernel_rfl) ?_
   intro Kn hKn
   generalize hi : mkPlan _ = infs
   cbv at hi
   subst hi
   simp (maxSteps := 1000000) only [VL,VM,↓VG,reduceIte,reduceCtorEq,zA,zB,zC,zD,zE,zF,zG,zH,zI,zJ, PM_at, PM_0, PM_1, PM_s0, PM_s1, a1, a2, a3, a4, q1]
   rw [hKn]
   clear hKn Kn
   simp only [QV,reduceIte,reduceCtorEq,Nat.reduceEqDiff]
   ((repeat refine Ws ?_);refine W_regionE T_ok ?_; intro Kn hKn)
   ((simp (maxSteps := 1000000) only [VL,VM,↓VG,reduceIte,reduceCtorEq,zA,zB,zC,zD,zE,zF,zG,zH,zI,zJ]); rw [hKn];clear hKn Kn;simp only [QV,reduceIte,reduceCtorEq,Nat.reduceEqDiff])
   rw [show rsPut 1 y wWater [a, c] = some ({ y with water := y.water ++ [⟨a, c⟩] }, false) by unfold rsPut; rw [if_neg (by omega), if_pos ⟨rfl, rfl, tm⟩]; rfl]
   refine W_eqM (M' := ⟨PM H ({ y with water := y.water ++ [⟨a, c⟩] }) L, lg⟩) (by simp [PM, yD]) ?_
   (repeat refine Ws ?_)
   refine W_ret ?_
   try simp only [thenQ, blockQ]
   refine own_retM rfl (by simp only [PM_len]) ?_ (by rfl)
   simp only [get_cons, frz, vtup, Nat.reduceEqDiff, if_true, if_false, reduceIte]
   rfl
  ·have kl : ((l.length : Int) = 2) = False := eq_false (by omega)
   ((repeat refine Ws ?_);refine W_regionE T_ok ?_; intro Kn hKn)
   ((simp (maxSteps := 1000000) only [VL,VM,↓VG,reduceIte,reduceCtorEq,zA,zB,zC,zD,zE,zF,zG,zH,zI,zJ, litWater, litShut, litBears, litKind, v_eqS, k0, kl]); rw [hKn];clear hKn Kn;simp only [QV,reduceIte,reduceCtorEq,Nat.reduceEqDiff])
   ((repeat refine Ws ?_);refine Wf (by first|rfl|simp only [EV,zF,reduceIte]) ?_)
   ((repeat refine Ws ?_);refine W_regionE T_ok ?_; intro Kn hKn)
   ((simp (maxSteps := 1000000) only [VL,VM,↓VG,reduceIte,reduceCtorEq,zA,zB,zC,zD,zE,zF,zG,zH,zI,zJ, litWater, litShut, litBears, litKind, v_eqS, k1]); rw [hKn];clear hKn Kn;simp only [QV,reduceIte,reduceCtorEq,Nat.reduceEqDiff])
   ((repeat refine Ws ?_);refine Wf (by first|rfl|simp only [EV,zF,reduceIte]) ?_)
   ((repeat refine Ws ?_);refine W_regionE T_ok ?_; intro Kn hKn)
   ((simp (maxSteps := 1000000) only [VL,VM,↓VG,reduceIte,reduceCtorEq,zA,zB,zC,zD,zE,zF,zG,zH,zI,zJ, litWater, litShut, litBears, litKind, v_eqS, k2]); rw [hKn];clear hKn Kn;simp only [QV,reduceIte,reduceCtorEq,Nat.reduceEqDiff])
   ((repeat refine Ws ?_);refine Wf (by first|rfl|simp only [EV,zF,reduceIte]) ?_)
   ((repeat refine Ws ?_);refine W_regionE T_ok ?_; intro Kn hKn)
   ((simp (maxSteps := 1000000) only [VL,VM,↓VG,reduceIte,reduceCtorEq,zA,zB,zC,zD,zE,zF,zG,zH,zI,zJ, litWater, litShut, litBears, litKind, v_eqS, k3]); rw [hKn];clear hKn Kn;simp only [QV,reduceIte,reduceCtorEq,Nat.reduceEqDiff])
   ((repeat refine Ws ?_);refine Wf (by first|rfl|simp only [EV,zF,reduceIte]) ?_)
   ((repeat refine Ws ?_);refine W_regionE T_ok ?_; intro Kn hKn)
   ((simp (maxSteps := 1000000) only [VL,VM,↓VG,reduceIte,reduceCtorEq,zA,zB,zC,zD,zE,zF,zG,zH,zI,zJ]); rw [hKn];clear hKn Kn;simp only [QV,reduceIte,reduceCtorEq,Nat.reduceEqDiff])
   rw [bad (fun e => hl2 e.2) (fun e => absurd (h0.symm.trans e.1) (by decide)) (fun e => absurd (h0.symm.trans e.1) (by decide)) (fun e => absurd (h0.symm.trans e.1) (by decide))]
   (repeat refine Ws ?_)
   refine W_ret ?_
   try simp only [thenQ, blockQ]
   refine own_retM rfl rfl ?_ (by rfl)
   simp only [get_cons, frz, vtup, Nat.reduceEqDiff, if_true, if_false, reduceIte]
   rfl
 have k0 : (w = wWater) = False := eq_false h0
 ((repeat refine Ws ?_);refine W_regionE T_ok ?_; intro Kn hKn)
 ((simp (maxSteps := 1000000) only [VL,VM,↓VG,reduceIte,reduceCtorEq,zA,zB,zC,zD,zE,zF,zG,zH,zI,zJ, litWater, litShut, litBears, litKind, v_eqS, k0]); rw [hKn];clear hKn Kn;simp only [QV,reduceIte,reduceCtorEq,Nat.reduceEqDiff])
 ((repeat refine Ws ?_);refine Wf (by first|rfl|simp only [EV,zF,reduceIte]) ?_)
 by_cases h1 : w = wShut
 ·have k1 : (w = wShut) = True := eq_true h1
  have k2 : (w = wBears) = False := eq_false (by rw [h1]; decide)
  have k3 : (w = wKind) = False := eq_false (by rw [h1]; decide)
  by_cases hl2 : l.length = 2
  ·have kl : ((l.length : Int) = 2) = True := eq_true (by omega)
   ((repeat refine Ws ?_);refine W_regionE T_ok ?_; intro Kn hKn)
   ((simp (maxSteps := 1000000) only [VL,VM,↓VG,reduceIte,reduceCtorEq,zA,zB,zC,zD,zE,zF,zG,zH,zI,zJ, litWater, litShut, litBears, litKind, v_eqS, k1, kl]); rw [hKn];clear hKn Kn;simp only [QV,reduceIte,reduceCtorEq,Nat.reduceEqDiff])
   ((repeat refine Ws ?_);refine Wt (by first|rfl|simp only [EV,zF,reduceIte]) ?_)
   obtain ⟨a, c, rfl⟩ := twoL hl2
   have q1 : ((y.shut.length + 1) * 16 ≤ 140737488355328) = True := eq_true (by omega)
   subst h1
   have tm := timely_sh ht
   (repeat refine Ws ?_)
   refine W_drawE T_ok [] (by kernel_rfl) (by kernel_rfl) ?_
   intro Kn hKn
   generalize hi : mkPlan _ = infs
   cbv at hi
   subst hi
   simp (maxSteps := 1000000) only [VL,VM,↓VG,reduceIte,reduceCtorEq,zA,zB,zC,zD,zE,zF,zG,zH,zI,zJ, PM_at, PM_0, PM_2, PM_s0, PM_s2, a1, a2, a3, a4, q1]
   rw [hKn]
   clear hKn Kn
   simp only [QV,reduceIte,reduceCtorEq,Nat.reduceEqDiff]
   ((repeat refine Ws ?_);refine W_regionE T_ok ?_; intro Kn hKn)
   ((simp (maxSteps := 1000000) only [VL,VM,↓VG,reduceIte,reduceCtorEq,zA,zB,zC,zD,zE,zF,zG,zH,zI,zJ]); rw [hKn];clear hKn Kn;simp only [QV,reduceIte,reduceCtorEq,Nat.reduceEqDiff])
   rw [show rsPut 1 y wShut [a, c] = some ({ y with shut := y.shut ++ [⟨a, c⟩] }, false) by unfold rsPut; rw [if_neg (by omega), if_neg (fun e => absurd e.1 (by decide)), if_pos ⟨rfl, rfl, tm⟩]; rfl]
   refine W_eqM (M' := ⟨PM H ({ y with shut := y.shut ++ [⟨a, c⟩] }) L, lg⟩) (by simp [PM, yD]) ?_
   (repeat refine Ws ?_)
   refine W_ret ?_
   try simp only [thenQ, blockQ]
   refine own_retM rfl (by simp only [PM_len]) ?_ (by rfl)
   simp only [get_cons, frz, vtup, Nat.reduceEqDiff, if_true, if_false, reduceIte]
   rfl
  ·have kl : ((l.length : Int) = 2) = False := eq_false (by omega)
   ((repeat refine Ws ?_);refine W_regionE T_ok ?_; intro Kn hKn)
   ((simp (maxSteps := 1000000) only [VL,VM,↓VG,reduceIte,reduceCtorEq,zA,zB,zC,zD,zE,zF,zG,zH,zI,zJ, litWater, litShut, litBears, litKind, v_eqS, k1, kl]); rw [hKn];clear hKn Kn;simp only [QV,reduceIte,reduceCtorEq,Nat.reduceEqDiff])
   ((repeat refine Ws ?_);refine Wf (by first|rfl|simp only [EV,zF,reduceIte]) ?_)
   ((repeat refine Ws ?_);refine W_regionE T_ok ?_; intro Kn hKn)
   ((simp (maxSteps := 1000000) only [VL,VM,↓VG,reduceIte,reduceCtorEq,zA,zB,zC,zD,zE,zF,zG,zH,zI,zJ, litWater, litShut, litBears, litKind, v_eqS, k2]); rw [hKn];clear hKn Kn;simp only [QV,reduceIte,reduceCtorEq,Nat.reduceEqDiff])
   ((repeat refine Ws ?_);refine Wf (by first|rfl|simp only [EV,zF,reduceIte]) ?_)
   ((repeat refine Ws ?_);refine W_regionE T_ok ?_; intro Kn hKn)
   ((simp (maxSteps := 1000000) only [VL,VM,↓VG,reduceIte,reduceCtorEq,zA,zB,zC,zD,zE,zF,zG,zH,zI,zJ, litWater, litShut, litBears, litKind, v_eqS, k3]); rw [hKn];clear hKn Kn;simp only [QV,reduceIte,reduceCtorEq,Nat.reduceEqDiff])
   ((repeat refine Ws ?_);refine Wf (by first|rfl|simp only [EV,zF,reduceIte]) ?_)
   ((repeat refine Ws ?_);refine W_regionE T_ok ?_; intro Kn hKn)
   ((simp (maxSteps := 1000000) only [VL,VM,↓VG,reduceIte,reduceCtorEq,zA,zB,zC,zD,zE,zF,zG,zH,zI,zJ]); rw [hKn];clear hKn Kn;simp only [QV,reduceIte,reduceCtorEq,Nat.reduceEqDiff])
   rw [bad (fun e => h0 e.1) (fun e => hl2 e.2) (fun e => absurd (h1.symm.trans e.1) (by decide)) (fun e => absurd (h1.symm.trans e.1) (by decide))]
   (repeat refine Ws ?_)
   refine W_ret ?_
   try simp only [thenQ, blockQ]
   refine own_retM rfl rfl ?_ (by rfl)
   simp only [get_cons, frz, vtup, Nat.reduceEqDiff, if_true, if_false, reduceIte]
   rfl
 have k1 : (w = wShut) = False := eq_false h1
 ((repeat refine Ws ?_);refine W_regionE T_ok ?_; intro Kn hKn)
 ((simp (maxSteps := 1000000) only [VL,VM,↓VG,reduceIte,reduceCtorEq,zA,zB,zC,zD,zE,zF,zG,zH,zI,zJ, litWater, litShut, litBears, litKind, v_eqS, k1]); rw [hKn];clear hKn Kn;simp only [QV,reduceIte,reduceCtorEq,Nat.reduceEqDiff])
 ((repeat refine Ws ?_);refine Wf (by first|rfl|simp only [EV,zF,reduceIte]) ?_)
 by_cases h2 : w = wBears
 ·have k2 : (w = wBears) = True := eq_true h2
  have k3 : (w = wKind) = False := eq_false (by rw [h2]; decide)
  by_cases hl2 : l.length = 1
  ·have kl : ((l.length : Int) = 1) = True := eq_true (by omega)
   ((repeat refine Ws ?_);refine W_regionE T_ok ?_; intro Kn hKn)
   ((simp (maxSteps := 1000000) only [VL,VM,↓VG,reduceIte,reduceCtorEq,zA,zB,zC,zD,zE,zF,zG,zH,zI,zJ, litWater, litShut, litBears, litKind, v_eqS, k2, kl]); rw [hKn];clear hKn Kn;simp only [QV,reduceIte,reduceCtorEq,Nat.reduceEqDiff])
   ((repeat refine Ws ?_);refine Wt (by first|rfl|simp only [EV,zF,reduceIte]) ?_)
   obtain ⟨a, rfl⟩ := one hl2
   have q1 : ((y.bears.length + 1) * 8 ≤ 140737488355328) = True := eq_true (by omega)
   subst h2
   have tm := timely_be ht
   (repeat refine Ws ?_)
   refine W_drawE T_ok [] (by kernel_rfl) (by kernel_rfl) ?_
   intro Kn hKn
   generalize hi : mkPlan _ = infs
   cbv at hi
   subst hi
   simp (maxSteps := 1000000) only [VL,VM,↓VG,reduceIte,reduceCtorEq,zA,zB,zC,zD,zE,zF,zG,zH,zI,zJ, PM_at, PM_0, PM_3, PM_s0, PM_s3, a1, a2, a3, a4, q1]
   rw [hKn]
   clear hKn Kn
   simp only [QV,reduceIte,reduceCtorEq,Nat.reduceEqDiff]
   ((repeat refine Ws ?_);refine W_regionE T_ok ?_; intro Kn hKn)
   ((simp (maxSteps := 1000000) only [VL,VM,↓VG,reduceIte,reduceCtorEq,zA,zB,zC,zD,zE,zF,zG,zH,zI,zJ]); rw [hKn];clear hKn Kn;simp only [QV,reduceIte,reduceCtorEq,Nat.reduceEqDiff])
   rw [show rsPut 1 y wBears [a] = some ({ y with bears := y.bears ++ [a] }, false) by unfold rsPut; rw [if_neg (by omega), if_neg (fun e => absurd e.1 (by decide)), if_neg (fun e => absurd e.1 (by decide)), if_pos ⟨rfl, rfl, tm⟩]; rfl]
   refine W_eqM (M' := ⟨PM H ({ y with bears := y.bears ++ [a] }) L, lg⟩) (by simp [PM, yD]) ?_
   (repeat refine Ws ?_)
   refine W_ret ?_
   try simp only [thenQ, blockQ]
   refine own_retM rfl (by simp only [PM_len]) ?_ (by rfl)
   simp only [get_cons, frz, vtup, Nat.reduceEqDiff, if_true, if_false, reduceIte]
   rfl
  ·have kl : ((l.length : Int) = 1) = False := eq_false (by omega)
   ((repeat refine Ws ?_);refine W_regionE T_ok ?_; intro Kn hKn)
   ((simp (maxSteps := 1000000) only [VL,VM,↓VG,reduceIte,reduceCtorEq,zA,zB,zC,zD,zE,zF,zG,zH,zI,zJ, litWater, litShut, litBears, litKind, v_eqS, k2, kl]); rw [hKn];clear hKn Kn;simp only [QV,reduceIte,reduceCtorEq,Nat.reduceEqDiff])
   ((repeat refine Ws ?_);refine Wf (by first|rfl|simp only [EV,zF,reduceIte]) ?_)
   ((repeat refine Ws ?_);refine W_regionE T_ok ?_; intro Kn hKn)
   ((simp (maxSteps := 1000000) only [VL,VM,↓VG,reduceIte,reduceCtorEq,zA,zB,zC,zD,zE,zF,zG,zH,zI,zJ, litWater, litShut, litBears, litKind, v_eqS, k3]); rw [hKn];clear hKn Kn;simp only [QV,reduceIte,reduceCtorEq,Nat.reduceEqDiff])
   ((repeat refine Ws ?_);refine Wf (by first|rfl|simp only [EV,zF,reduceIte]) ?_)
   ((repeat refine Ws ?_);refine W_regionE T_ok ?_; intro Kn hKn)
   ((simp (maxSteps := 1000000) only [VL,VM,↓VG,reduceIte,reduceCtorEq,zA,zB,zC,zD,zE,zF,zG,zH,zI,zJ]); rw [hKn];clear hKn Kn;simp only [QV,reduceIte,reduceCtorEq,Nat.reduceEqDiff])
   rw [bad (fun e => h0 e.1) (fun e => h1 e.1) (fun e => hl2 e.2) (fun e => absurd (h2.symm.trans e.1) (by decide))]
   (repeat refine Ws ?_)
   refine W_ret ?_
   try simp only [thenQ, blockQ]
   refine own_retM rfl rfl ?_ (by rfl)
   simp only [get_cons, frz, vtup, Nat.reduceEqDiff, if_true, if_false, reduceIte]
   rfl
 have k2 : (w = wBears) = False := eq_false h2
 ((repeat refine Ws ?_);refine W_regionE T_ok ?_; intro Kn hKn)
 ((simp (maxSteps := 1000000) only [VL,VM,↓VG,reduceIte,reduceCtorEq,zA,zB,zC,zD,zE,zF,zG,zH,zI,zJ, litWater, litShut, litBears, litKind, v_eqS, k2]); rw [hKn];clear hKn Kn;simp only [QV,reduceIte,reduceCtorEq,Nat.reduceEqDiff])
 ((repeat refine Ws ?_);refine Wf (by first|rfl|simp only [EV,zF,reduceIte]) ?_)
 by_cases h3 : w = wKind
 ·have k3 : (w = wKind) = True := eq_true h3
  by_cases hl5 : 5 ≤ l.length
  rotate_left
  ·have kl : ((5 : Int) ≤ (l.length : Int)) = False := eq_false (by omega)
   ((repeat refine Ws ?_);refine W_regionE T_ok ?_; intro Kn hKn)
   ((simp (maxSteps := 1000000) only [VL,VM,↓VG,reduceIte,reduceCtorEq,zA,zB,zC,zD,zE,zF,zG,zH,zI,zJ, litWater, litShut, litBears, litKind, v_eqS, k3, kl]); rw [hKn];clear hKn Kn;simp only [QV,reduceIte,reduceCtorEq,Nat.reduceEqDiff])
   ((repeat refine Ws ?_);refine Wf (by first|rfl|simp only [EV,zF,reduceIte]) ?_)
   ((repeat refine Ws ?_);refine W_regionE T_ok ?_; intro Kn hKn)
   ((simp (maxSteps := 1000000) only [VL,VM,↓VG,reduceIte,reduceCtorEq,zA,zB,zC,zD,zE,zF,zG,zH,zI,zJ]); rw [hKn];clear hKn Kn;simp only [QV,reduceIte,reduceCtorEq,Nat.reduceEqDiff])
   rw [bad (fun e => h0 e.1) (fun e => h1 e.1) (fun e => h2 e.1) (fun e => hl5 e.2.1)]
   (repeat refine Ws ?_)
   refine W_ret ?_
   try simp only [thenQ, blockQ]
   refine own_retM rfl rfl ?_ (by rfl)
   simp only [get_cons, frz, vtup, Nat.reduceEqDiff, if_true, if_false, reduceIte]
   rfl
  obtain ⟨b0, b1, b2, b3, b4, r, rfl⟩ := five hl5
  have kl : ((5 : Int) ≤ ((r.length + 5 : Nat) : Int)) = True := eq_true (by omega)
  by_cases hb2 : b2 ≤ 1
  rotate_left
  ·have kb : (b2 ≤ 1) = False := eq_false hb2
   ((repeat refine Ws ?_);refine W_regionE T_ok ?_; intro Kn hKn)
   ((simp (maxSteps := 1000000) only [VL,VM,↓VG,reduceIte,reduceCtorEq,zA,zB,zC,zD,zE,zF,zG,zH,zI,zJ, litWater, litShut, litBears, litKind, v_eqS, k3, kl, kb]); rw [hKn];clear hKn Kn;simp only [QV,reduceIte,reduceCtorEq,Nat.reduceEqDiff])
   ((repeat refine Ws ?_);refine Wf (by first|rfl|simp only [EV,zF,reduceIte]) ?_)
   ((repeat refine Ws ?_);refine W_regionE T_ok ?_; intro Kn hKn)
   ((simp (maxSteps := 1000000) only [VL,VM,↓VG,reduceIte,reduceCtorEq,zA,zB,zC,zD,zE,zF,zG,zH,zI,zJ]); rw [hKn];clear hKn Kn;simp only [QV,reduceIte,reduceCtorEq,Nat.reduceEqDiff])
   rw [bad (fun e => h0 e.1) (fun e => h1 e.1) (fun e => h2 e.1) (fun e => hb2 (by have := e.2.2; simp only [List.getD_cons_succ, List.getD_cons_zero] at this; omega))]
   (repeat refine Ws ?_)
   refine W_ret ?_
   try simp only [thenQ, blockQ]
   refine own_retM rfl rfl ?_ (by rfl)
   simp only [get_cons, frz, vtup, Nat.reduceEqDiff, if_true, if_false, reduceIte]
   rfl
  have kb : (b2 ≤ 1) = True := eq_true hb2
  have q1 : ((y.kinds.length + 1) * 64 ≤ 140737488355328) = True := eq_true (by omega)
  have hrl : r.length ≤ 100000 := by simp at hl; omega
  ((repeat refine Ws ?_);refine W_regionE T_ok ?_; intro Kn hKn)
  ((simp (maxSteps := 1000000) only [VL,VM,↓VG,reduceIte,reduceCtorEq,zA,zB,zC,zD,zE,zF,zG,zH,zI,zJ, litWater, litShut, litBears, litKind, v_eqS, k3, kl, kb]); rw [hKn];clear hKn Kn;simp only [QV,reduceIte,reduceCtorEq,Nat.reduceEqDiff])
  ((repeat refine Ws ?_);refine Wt (by first|rfl|simp only [EV,zF,reduceIte]) ?_)
  (repeat refine Ws ?_)
  refine W_drawE T_ok [] (by kernel_rfl) (by kernel_rfl) ?_
  intro Kn hKn
  generalize hi : mkPlan _ = infs
  cbv at hi
  subst hi
  simp (maxSteps := 1000000) only [VL,VM,↓VG,reduceIte,reduceCtorEq,zA,zB,zC,zD,zE,zF,zG,zH,zI,zJ, PM_at, PM_0, PM_4, PM_s0, PM_s4, a1, a2, a3, a4, List.take_length, q1]
  rw [hKn]
  clear hKn Kn
  simp only [QV,reduceIte,reduceCtorEq,Nat.reduceEqDiff]
  ((repeat refine Ws ?_);refine W_regionE T_ok ?_; intro Kn hKn)
  ((simp (maxSteps := 1000000) only [VL,VM,↓VG,reduceIte,reduceCtorEq,zA,zB,zC,zD,zE,zF,zG,zH,zI,zJ]); rw [hKn];clear hKn Kn;simp only [QV,reduceIte,reduceCtorEq,Nat.reduceEqDiff])
  subst h3
  rw [show rsPut 1 y wKind (b0 :: b1 :: b2 :: b3 :: b4 :: r) = some ({ y with kinds := y.kinds ++ [⟨b0, b1, decide (b2 = 1), r, b3, b4⟩] }, false) by unfold rsPut; rw [if_neg (by omega), if_neg (fun e => absurd e.1 (by decide)), if_neg (fun e => absurd e.1 (by decide)), if_neg (fun e => absurd e.1 (by decide)), if_pos ⟨rfl, hl5, by simp only [List.getD_cons_succ, List.getD_cons_zero]; omega⟩]; rfl]
  refine W_eqM (M' := ⟨PM H ({ y with kinds := y.kinds ++ [⟨b0, b1, decide (b2 = 1), r, b3, b4⟩] }) L, lg⟩) (by simp [PM, yD]) ?_
  (repeat refine Ws ?_)
  refine W_ret ?_
  try simp only [thenQ, blockQ]
  refine own_retM rfl (by simp only [PM_len]) ?_ (by rfl)
  simp only [get_cons, frz, vtup, Nat.reduceEqDiff, if_true, if_false, reduceIte]
  rfl
 have k3 : (w = wKind) = False := eq_false h3
 ((repeat refine Ws ?_);refine W_regionE T_ok ?_; intro Kn hKn)
 ((simp (maxSteps := 1000000) only [VL,VM,↓VG,reduceIte,reduceCtorEq,zA,zB,zC,zD,zE,zF,zG,zH,zI,zJ, litWater, litShut, litBears, litKind, v_eqS, k3]); rw [hKn];clear hKn Kn;simp only [QV,reduceIte,reduceCtorEq,Nat.reduceEqDiff])
 ((repeat refine Ws ?_);refine Wf (by first|rfl|simp only [EV,zF,reduceIte]) ?_)
 ((repeat refine Ws ?_);refine W_regionE T_ok ?_; intro Kn hKn)
 ((simp (maxSteps := 1000000) only [VL,VM,↓VG,reduceIte,reduceCtorEq,zA,zB,zC,zD,zE,zF,zG,zH,zI,zJ]); rw [hKn];clear hKn Kn;simp only [QV,reduceIte,reduceCtorEq,Nat.reduceEqDiff])
 rw [bad (fun e => h0 e.1) (fun e => h1 e.1) (fun e => h2 e.1) (fun e => h3 e.1)]
 (repeat refine Ws ?_)
 refine W_ret ?_
 try simp only [thenQ, blockQ]
 refine own_retM rfl rfl ?_ (by rfl)
 simp only [get_cons, frz, vtup, Nat.reduceEqDiff, if_true, if_false, reduceIte]
 rfl
end Go.Proofs.YtominlgikchnmaaGreatDoor.Vm

/- A strings.Builder of our own: it is made. (Vm) -/
namespace Go.Proofs.YtominlgikchnmaaGreatDoor.Vm
open Go Go.Proofs Go.RowKit
section
variable {P : Program} {T : Tab} {cx : Cx} {e : Env} {M : Mem} {D : List Nat} {Q : PQ}
theorem so_nil {w : World} {K : Nat → Option Nat} {H : List VObj} {j : Nat} (hj : H[j]? = some (.clm 0 1)) (hK : K j = none) : RepV w K H (.slice none 0 0) (.so j 1 (bysV [])) :=
 .so _ j 1 [] (.sl none 0 1 0 0 [] (fun _ _ => .nilFunc) (by simp) (by simp [maxLen]) (by simp) (by simp) (by simp) (by simp) (by simp)) (fun m k' hm => by
  rw [hj] at hm
  cases hm
  exact ⟨Nat.le_refl _, fun _ => ⟨rfl, .inr ⟨hK, rfl, none, rfl⟩⟩⟩)
theorem W_allocB (hT : TabOk P T) {id d tB tE : Nat} {ty : TypeId} {p : String} {af : Array Edge} {y : Ty} (hy : T.ty tB = some y) (hz : y.z = .agg #[.pointer none, .slice none 0 0]) (hd : d < cx.nt)
  (h : Q .normal ((d, .ptr (M.H.length + 1) 0) :: e) ⟨M.H ++ [.clm 0 1, .bld tB tE M.H.length []], M.lg⟩ D) :
  WCode P cx (.region id #[{ dst := some d, op := .alloc tB, type := ty, pos := p, after := af, guard := none }] false) e M D Q := by
 intro G w K a hs
 refine wpIn_region ?_
 have hY := hT.ty _ _ hy
 have hzz := run_zero' (P := P) (w := w) hY
 have hrun : (execOp a.eval ({ dst := some d, op := .alloc tB, type := ty, pos := p, after := af, guard := none } : Oper)).run P w = .ok (.value (.pointer (some ⟨w.heap.size, 0, none⟩))) (w.alloc (.cells #[.pointer none, .slice none 0 0] tB)) := by
  simp [execOp, Instr.alloc, hzz, hz, newVar, newRow, Value.cells]
 obtain ⟨e1, i1⟩ := step_new (w' := w) hs.inv (calm_refl w) (fun _ _ => rfl) (.clm 0 1) none (fun b e => by cases e) (fun c hc => by simp [contents] at hc) (fun hE b e => by cases e)
 replace e1 : Ext w K M.H w (upd K M.H.length none) (M.push (.clm 0 1)).H := e1
 have hnew := heap_alloc_new w (.cells #[.pointer none, .slice none 0 0] tB)
 have hl1 : (M.push (.clm 0 1)).H.length = M.H.length + 1 := by simp [Mem.push]
 have hj1 : (M.push (.clm 0 1)).H[M.H.length]? = some (.clm 0 1) := by simp [Mem.push]
 obtain ⟨e2, i2⟩ := step_new i1 (w' := w.alloc (.cells #[.pointer none, .slice none 0 0] tB)) ⟨rfl, rfl, rfl, by show w.heap.size ≤ (w.heap.push _).size; simp⟩ (fun b hb => heap_alloc_old w _ b hb) (.bld tB tE M.H.length []) (some w.heap.size)
  (fun b hb => by cases hb; exact ⟨Nat.le_refl _, by show _ < (w.heap.push _).size; simp⟩)
  (fun c hcc r hr => by
    simp only [contents, List.mem_singleton] at hcc
    subst hcc
    simp only [refs, List.mem_singleton] at hr
    omega)
  (fun hE => ⟨w.heap.size, .slice none 0 0, .pointer none, rfl, hnew, .inl rfl, so_nil (by rw [List.getElem?_append_left (by omega)]; exact hj1) (by rw [upd_ne _ _ (by omega)]; exact upd_same _ _ _), .inl rfl⟩)
 have hM : ((M.push (.clm 0 1)).push (.bld tB tE M.H.length [])) = ⟨M.H ++ [.clm 0 1, .bld tB tE M.H.length []], M.lg⟩ := by simp [Mem.push]
 rw [hM] at i2
 rw [show (M.push (.clm 0 1)).H ++ [.bld tB tE M.H.length []] = M.H ++ [.clm 0 1, .bld tB tE M.H.length []] by simp [Mem.push]] at e2
 have hE := e1.trans e2
 have hw0 : vwanted #[({ dst := some d, op := .alloc tB, type := ty, pos := p, after := af, guard := none } : Oper)] { dst := some d, op := .alloc tB, type := ty, pos := p, after := af, guard := none } e = some true := rfl
 simp only [List.size_toArray, List.length_cons, List.length_nil, Nat.zero_add, List.range_succ, List.range_zero, List.nil_append, wpOpsIn, List.getElem?_toArray, List.getElem?_cons_zero]
 rw [wanted_ok hs.fr hw0]
 simp only [if_true]
 refine ⟨fun _ _ => trivial, ?_⟩
 rw [Oper.semAt_eq _ _ _ (fun c hc => by cases hc), hrun]
 have hrep : RepV (w.alloc (.cells #[.pointer none, .slice none 0 0] tB)) (upd (upd K M.H.length none) (M.push (.clm 0 1)).H.length (some w.heap.size)) (M.H ++ [.clm 0 1, .bld tB tE M.H.length []]) (.pointer (some ⟨w.heap.size, 0, none⟩)) (.ptr (M.H.length + 1) 0) := by
  refine .ptr _ _ _ (by rw [hl1]; exact upd_same _ _ _) fun m k hm => ?_
  rw [List.getElem?_append_right (by omega)] at hm
  simp at hm
 obtain ⟨hf', hd'⟩ := put_ok (M := ⟨M.H ++ [.clm 0 1, .bld tB tE M.H.length []], M.lg⟩) (hs.fr.ext (M' := ⟨M.H ++ [.clm 0 1, .bld tB tE M.H.length []], M.lg⟩) hE) (dst := some d) (v := .ptr (M.H.length + 1) 0) (e' := (d, .ptr (M.H.length + 1) 0) :: e) (by unfold vput; simp only; rw [show Nat.blt d cx.nt = true by rw [Nat.blt_eq]; exact hd]; rfl) hrep (fun r hr => by obtain rfl : r = M.H.length + 1 := (by simpa [refs] using hr) ; show M.H.length + 1 < (M.H ++ [_, _]).length; rw [List.length_append]; exact Nat.lt_succ_self _)
 exact ⟨_, _, _, D, h, trivial, ⟨hf', by rw [hd']; exact df_ext hE hs.df, i2, (rd_ext hE hs.rd).1⟩, hE⟩
end
end Go.Proofs.YtominlgikchnmaaGreatDoor.Vm

/- (*strings.Builder).WriteString, in the model. (Vm) -/
namespace Go.Proofs.YtominlgikchnmaaGreatDoor.Vm
open Go Go.Proofs Go.RowKit
structure AppP (w w2 : World) (tE : Nat) (v v' : Value) (l s : By) : Prop where
 row : ∃ g cap cur, v' = .slice (some ⟨g, 0, none⟩) (l.length + s.length) cap ∧ w2.heap[g]? = some (.cells cur tE (0, 0)) ∧ l.length + s.length ≤ cap ∧ cap ≤ maxLen ∧ cur.size = cap ∧ cur.toList.take (l.length + s.length) = Lib.byteCells (l ++ s) ∧ (v.ownBlock = some g ∨ w.heap.size ≤ g)
 grown : w.grownBy w2 v.ownBlock
 old : ∀ k0, v.ownBlock = some k0 → ∃ c0 c1, w.heap[k0]? = some (.cells c0 tE (0, 0)) ∧ w2.heap[k0]? = some (.cells c1 tE (0, 0)) ∧ c1.size = c0.size ∧ ∀ o, o < l.length → c1[o]? = c0[o]?
theorem str_byte (s : By) : Lib.strCells (tx s) = Lib.byteCells s := by
 unfold Lib.strCells Lib.byteCells
 rw [tx_list]
theorem byte_app (a b : By) : Lib.byteCells (a ++ b) = Lib.byteCells a ++ Lib.byteCells b := by simp [Lib.byteCells]
theorem run_append_str {P : Program} (w : World) (t u ty e : TypeId) (i : TypeInfo) (ht : P.underlying t = some (.slice e)) (hu : P.underlying u = some .string) (hi : P.info? e = some i) (hz : i.zero = some (.int .u8 0))
  (hsize : i.size = 1) (hby : i.bytes = 1) (v : Value) (l s : By) (hown : w.ownsRow 0 e 1 v l.length (Lib.byteCells l)) (hs : s ≠ []) (hb : l.length + s.length ≤ 140737488355328) :
  ∃ v' w2, (Builtin.append_ #[t, u] ty #[v, .string (tx s)]).run P w = .ok v' w2 ∧ AppP w w2 e v v' l s := by
 have hs1 : 0 < s.length := List.length_pos_iff.2 hs
 rcases hown.2 with ⟨rfl, h0⟩ | ⟨g, cap, cur, rfl, _, hg, hnc, hcm, hcs, htake⟩
 ·obtain rfl : l = [] := List.eq_nil_of_length_eq_zero h0
  obtain ⟨v', w2, h1, h2, h3, h4⟩ := Lib.run_append_own_string (P := P) w w.heap.size t u ty e i ht hu hi hz hsize hby (.slice none 0 0) 0 [] (World.ownsRow_nil w _ e 1) (tx s) (by rw [tx_size]; unfold maxLen; simp at hb; omega) (by rw [tx_size]; simp at hb; omega) (Nat.le_refl _)
  refine ⟨v', w2, h1, ⟨?_, h3, fun k0 hk => by cases hk⟩⟩
  rcases h2.2 with ⟨rfl, hn⟩ | ⟨g, cap, cur, rfl, hbg, hg, hnc, hcm, hcs, htake⟩
  ·rw [tx_size] at hn; omega
  ·rw [tx_size] at hnc htake
   rw [tx_size]
   simp only [List.nil_append, str_byte, Nat.mul_one, Nat.zero_add] at htake hcs ⊢
   exact ⟨g, cap, cur, by simp, hg, by simpa using hnc, hcm, hcs, by simpa using htake, .inr hbg⟩
 ·have hsmall : l.length + s.length ≤ 9223372036854775807 := by omega
  have hxl : (Lib.byteCells l).length = l.length := Lib.byteCells_length l
  simp only [Nat.mul_one] at hcs htake
  by_cases hroom : l.length + s.length ≤ cap
  ·have hr := Lib.run_append_room_string (P := P) w t u ty e i ht hu hi hsize g l.length cap cur hg (tx s) (by rw [tx_size]; exact hroom) (by rw [tx_size]; omega)
   rw [tx_size, str_byte] at hr
   refine ⟨_, _, hr, ⟨⟨g, cap, _, rfl, setRow_heap w g cur _ e _ hg, hroom, hcm, ?_, ?_, .inl rfl⟩, ⟨rfl, rfl, rfl, by simp, fun k _ hk => setRow_other w g k _ (fun e => hk (by simp [Value.ownBlock, e]))⟩, fun k0 hk => ?_⟩⟩
   ·simp only [List.size_toArray, List.length_append, List.length_take, List.length_drop, Array.length_toList, Lib.byteCells_length]
    omega
   ·rw [htake, byte_app]
    show ((Lib.byteCells l ++ Lib.byteCells s) ++ _).take _ = _
    rw [show l.length + s.length = (Lib.byteCells l ++ Lib.byteCells s).length by rw [List.length_append, Lib.byteCells_length, Lib.byteCells_length]]
    exact List.take_left
   ·obtain rfl : g = k0 := by simpa [Value.ownBlock] using hk
    refine ⟨cur, _, hg, setRow_heap w g cur _ e _ hg, ?_, fun o ho => ?_⟩
    ·simp only [List.size_toArray, List.length_append, List.length_take, List.length_drop, Array.length_toList, Lib.byteCells_length]
     omega
    ·have hcl : cur.toList.length = cur.size := Array.length_toList
     rw [List.getElem?_toArray, List.append_assoc, List.getElem?_append_left (by rw [List.length_take]; omega), List.getElem?_take, if_pos ho, Array.getElem?_toList]
  ·have holds : ∀ j u, (Lib.byteCells l)[j]? = some u → w.cell? ((⟨g, 0, none⟩ : Addr).add j) = some u := hown.cells (g := g) rfl
   have hr := Lib.run_append_grow_string (P := P) w t u ty e i (.int .u8 0) ht hu hi hz ⟨g, 0, none⟩ l.length cap (Lib.byteCells l) (by rw [hsize]; omega) holds (tx s) (by rw [tx_size]; omega) (by rw [tx_size]; omega) (by rw [hby, tx_size]; exact growslice_fits (by omega) (by omega))
   rw [tx_size, str_byte] at hr
   have hge := grownCap_ge w (l.length + s.length) cap e
   have hcm2 : grownCap w (l.length + s.length) cap e ≤ maxLen := grownCap_le_maxLen w (l.length + s.length) cap e (by unfold maxLen; omega)
   refine ⟨_, _, hr, ⟨⟨w.heap.size, _, _, rfl, heap_alloc_new w.drew _, hge, hcm2, ?_, ?_, .inr (Nat.le_refl _)⟩, ⟨rfl, rfl, rfl, by simp, fun k hk _ => heap_alloc_old w.drew _ k hk⟩, fun k0 hk => ?_⟩⟩
   ·have hz1 : (Value.int IntKind.u8 0).cells.size = 1 := rfl
    simp only [Array.size_append, List.size_toArray, size_zeroCells, hz1, Lib.byteCells_length]
    omega
   ·rw [byte_app]
    simp only [Array.toList_append, List.append_assoc]
    rw [← List.append_assoc, show l.length + s.length = (Lib.byteCells l ++ Lib.byteCells s).length by rw [List.length_append, Lib.byteCells_length, Lib.byteCells_length]]
    exact List.take_left
   ·obtain rfl : g = k0 := by simpa [Value.ownBlock] using hk
    exact ⟨cur, cur, hg, (heap_alloc_old w.drew _ g (Array.getElem?_eq_some_iff.1 hg).1).trans hg, rfl, fun _ _ => rfl⟩
theorem wpList_append_str {P : Program} {w : World} {ops : Array Oper} {rest : List Oper} {o : Oper} {a : Act} {Q : Exit → Act → World → Prop} (hgd : o.guard = none) (sl x : Operand) (t u : TypeId)
  (ho : o.op = .call { callee := .builtin .append, args := #[sl, x], argTypes := #[t, u] })
  (e : TypeId) (i : TypeInfo) (ht : P.underlying t = some (.slice e)) (hu : P.underlying u = some .string) (hi : P.info? e = some i) (hz : i.zero = some (.int .u8 0))
  (hsize : i.size = 1) (hby : i.bytes = 1) (v : Value) (l s : By) (hs : a.eval sl = v) (hown : w.ownsRow 0 e 1 v l.length (Lib.byteCells l)) (hne : s ≠ []) (hx : a.eval x = .string (tx s)) (hb : l.length + s.length ≤ 140737488355328)
  (h : ∀ v' w2, AppP w w2 e v v' l s → wpList P ops Q rest (a.put o.dst v') w2) : wpList P ops Q (o :: rest) a w := by
 refine wpList_plain hgd fun K hK => ?_
 obtain ⟨v', w2, hr, h2⟩ := run_append_str (P := P) w t u o.type e i ht hu hi hz hsize hby v l s hown hne hb
 unfold Oper.wp execOp
 simp only [ho, resolve, invoke, builtin, Sem.run_bind, Sem.run_pure, Result.andThen_ok, List.map_toArray, List.map_cons, List.map_nil, hs, hx, hr]
 exact hK _ _ (h v' w2 h2)
abbrev tBld : Nat := 79
abbrev tByte : Nat := 5
structure WsP (w w2 : World) (b : Nat) (v : Value) (l s : By) : Prop where
 row : ∃ g cap cur, w2.heap[b]? = some (.cells #[.pointer (some ⟨b, 0, none⟩), .slice (some ⟨g, 0, none⟩) (l.length + s.length) cap] tBld (0, 0)) ∧ w2.heap[g]? = some (.cells cur tByte (0, 0)) ∧ l.length + s.length ≤ cap ∧ cap ≤ maxLen ∧ cur.size = cap ∧ cur.toList.take (l.length + s.length) = Lib.byteCells (l ++ s) ∧ (v.ownBlock = some g ∨ w.heap.size ≤ g)
 os : w2.os = w.os
 tape : w2.tape = w.tape
 output : w2.output = w.output
 size : w.heap.size ≤ w2.heap.size
 block : ∀ k, k < w.heap.size → k ≠ b → some k ≠ v.ownBlock → w2.heap[k]? = w.heap[k]?
 old : ∀ k0, v.ownBlock = some k0 → ∃ c0 c1, w.heap[k0]? = some (.cells c0 tByte (0, 0)) ∧ w2.heap[k0]? = some (.cells c1 tByte (0, 0)) ∧ c1.size = c0.size ∧ ∀ o, o < l.length → c1[o]? = c0[o]?
theorem setCell_eq (w : World) (b : Nat) (p v x : Value) (T : TypeId) (i : Nat) (h : w.heap[b]? = some (.cells #[p, v] T (0, 0))) : (w.setCell ⟨b, i, none⟩ x).heap[b]? = some (.cells ((#[p, v] : Array Value).setIfInBounds i x) T (0, 0)) := by
 simp [World.setCell, Array.getElem?_modify, h]
set_option maxHeartbeats 2000000 in
set_option maxRecDepth 100000 in
theorem writeString_raw (w : World) (b : Nat) (p v : Value) (l s : By) (hb : w.heap[b]? = some (.cells #[p, v] tBld (0, 0))) (hp : p = .pointer none ∨ p = .pointer (some ⟨b, 0, none⟩))
  (hown : w.ownsRow 0 tByte 1 v l.length (Lib.byteCells l)) (hne : v.ownBlock ≠ some b) (hs : s ≠ []) (hl : l.length + s.length ≤ 140737488355328) :
  Calls Tryz.prog 34 #[.pointer (some ⟨b, 0, none⟩), .string (tx s)] w fun e w' => e = .returned (.tuple #[.int .i64 (tx s).size, .nilIface]) ∧ WsP w w' b v l s := by
 have hcc : Calls Tryz.prog 63 #[.pointer (some ⟨b, 0, none⟩)] w fun e w1 => e = .returned (.tuple #[]) ∧ w1.heap[b]? = some (.cells #[.pointer (some ⟨b, 0, none⟩), v] tBld (0, 0)) ∧ w1.os = w.os ∧ w1.tape = w.tape ∧ w1.output = w.output ∧ w1.heap.size = w.heap.size ∧ ∀ k, k ≠ b → w1.heap[k]? = w.heap[k]? := by
  rcases hp with rfl | rfl
  ·refine (Any.Builder_copyCheck_fresh Tryz.lays240 Tryz.Builder_X72_240 b w (by rw [Lib.cell_of_heap hb]; rfl) (by simp [World.shape?, hb]; rfl) (Lib.frozen_of_heap hb 0)).mono ?_
   rintro e w1 ⟨rfl, rfl⟩
   refine ⟨rfl, setCell_eq w b _ v _ _ 0 hb, rfl, rfl, rfl, by simp [World.setCell], fun k hk => Below.heap_setCell _ _ _ _ hk⟩
  ·refine (Any.Builder_copyCheck_used Tryz.lays240 Tryz.Builder_X72_240 b w (by rw [Lib.cell_of_heap hb]; rfl)).mono ?_
   rintro e w1 ⟨rfl, rfl⟩
   exact ⟨rfl, hb, rfl, rfl, rfl, rfl, fun _ _ => rfl⟩
 obtain ⟨i0, hi, hz0, hz1, hz2⟩ := info_parts Tryz.Builder_Extra_169.infoByte
 go_enter Tryz.func34, Tryz.ntmps34
 go_wp2_with (go_at_call 63; refine hcc.mono ?_)
 rintro e w1 ⟨rfl, hb1, o1, o2, o3, o4, o5⟩
 have c0 : w1.cell? ⟨b, 0, none⟩ = some (.pointer (some ⟨b, 0, none⟩)) := by rw [Lib.cell_of_heap hb1]; rfl
 have c1 : w1.cell? ⟨b, 1, none⟩ = some v := by rw [Lib.cell_of_heap hb1]; rfl
 have hown1 : w1.ownsRow 0 tByte 1 v l.length (Lib.byteCells l) := by
  refine ⟨hown.1, ?_⟩
  rcases hown.2 with h | ⟨g, cap, cur, h1, h2, h3, h4⟩
  ·exact .inl h
  ·exact .inr ⟨g, cap, cur, h1, h2, (o5 g (fun e => hne (by rw [h1, ← e]; rfl))).trans h3, h4⟩
 go_wp2_with (at_builtin; refine wpList_append_str rfl _ _ 77 9 rfl tByte i0 Tryz.underlying77 Tryz.underlying9 hi hz0 hz1 hz2 v l s rfl hown1 hs rfl hl ?_)
 intro v' w2 hA
 obtain ⟨g, cap, cur, rfl, hg, q1, q2, q3, q4, q5⟩ := hA.row
 have hlt : b < w1.heap.size := (Array.getElem?_eq_some_iff.1 hb1).1
 have hb2 : w2.heap[b]? = some (.cells #[.pointer (some ⟨b, 0, none⟩), v] tBld (0, 0)) := by
  rw [hA.grown.block b hlt (fun e => hne e.symm)]
  exact hb1
 have d0 : w2.cell? ⟨b, 0, none⟩ = some (.pointer (some ⟨b, 0, none⟩)) := by rw [Lib.cell_of_heap hb2]; rfl
 have d1 : w2.cell? ⟨b, 1, none⟩ = some v := by rw [Lib.cell_of_heap hb2]; rfl
 have f1 : w2.frozen? ⟨b, 1, none⟩ = false := Lib.frozen_of_heap hb2 1
 go_wp2
 go_ret2
 have hgb : g ≠ b := by
  rintro rfl
  rcases q5 with h | h
  ·exact hne h
  ·omega
 refine ⟨rfl, ⟨⟨g, cap, cur, setCell_eq w2 b _ v _ _ 1 hb2, (Below.heap_setCell _ _ _ _ hgb).trans hg, q1, q2, q3, q4, by rw [o4] at q5; exact q5⟩, hA.grown.os.trans o1, hA.grown.tape.trans o2, hA.grown.output.trans o3, ?_, fun k hk hkb hkv => ?_, fun k0 hk0 => ?_⟩⟩
 ·have := hA.grown.size
  simp only [World.setCell, Array.size_modify]
  omega
 ·rw [Below.heap_setCell _ _ _ _ hkb, hA.grown.block k (by omega) hkv, o5 k hkb]
 ·obtain ⟨x0, x1, h1, h2, h3, h4⟩ := hA.old k0 hk0
  have hkb : k0 ≠ b := fun e => hne (by rw [hk0, e])
  exact ⟨x0, x1, (o5 k0 hkb).symm.trans h1, (Below.heap_setCell _ _ _ _ hkb).trans h2, h3, h4⟩
end Go.Proofs.YtominlgikchnmaaGreatDoor.Vm
