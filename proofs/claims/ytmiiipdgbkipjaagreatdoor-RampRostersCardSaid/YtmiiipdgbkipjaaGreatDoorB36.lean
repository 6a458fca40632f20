/- A part of the proofs about the chapter of the ramps; it states no condition of its own. -/
import Derived.Test.YtmiiipdgbkipjaaGreatDoorB18
import Derived.Test.YtmiiipdgbkipjaaGreatDoorB28
import Derived.Test.YtmiiipdgbkipjaaGreatDoorB34
import Derived.Test.YtmiiipdgbkipjaaGreatDoorB35
set_option linter.unusedVariables false
set_option linter.unusedSimpArgs false
open Int renaming reduceLE → zA, reduceLT → zB, reduceToNat → zC, reduceNeg → zD
open Nat renaming reduceLT → zE, reduceEqDiff → zF, reduceAdd → zG, reduceSub → zH, reduceMul → zI, reduceLeDiff → zJ
/- The program's Read, on values. (Vm) -/
namespace Go.Proofs.YtmiiipdgbkipjaaGreatDoor.Vm
open Go Go.Proofs
def PMc (H : List VObj) (cs : List VV) (m k : Nat) (L : List VObj) : List VObj := H ++ .obj cs :: .clm m 3 :: .clm k 6 :: L
abbrev yD (n : Nat) (y : Ya) : List VV := [.so (n + 1) 3 (y.ramps.map raP), .so (n + 2) 6 (y.carts.map ctP), vi y.sweep]
abbrev PM (H : List VObj) (y : Ya) (L : List VObj) : List VObj := PMc H (yD H.length y) y.ramps.length y.carts.length L
section
variable {H : List VObj} {cs cs' : List VV} {m k m' k' : Nat} {L : List VObj}
theorem PM_app (X : List VObj) : PMc H cs m k L ++ X = PMc H cs m k (L ++ X) := by simp [PMc]
theorem PM_0 : (PMc H cs m k L)[H.length]? = some (.obj cs) := by unfold PMc; rw [hget0]; rfl
theorem PM_1 : (PMc H cs m k L)[H.length + 1]? = some (.clm m 3) := by unfold PMc; rw [hget]; rfl
theorem PM_2 : (PMc H cs m k L)[H.length + 2]? = some (.clm k 6) := by unfold PMc; rw [hget]; rfl
theorem PM_at (j : Nat) : (PMc H cs m k L)[H.length + (3 + j)]? = L[j]? := by unfold PMc; rw [hget, show 3 + j = j + 3 by omega]; rfl
theorem PM_s0 : (PMc H cs m k L).set H.length (.obj cs') = PMc H cs' m k L := by unfold PMc; rw [hset0]; rfl
theorem PM_s1 : (PMc H cs m k L).set (H.length + 1) (.clm m' 3) = PMc H cs m' k L := by unfold PMc; rw [hset]; rfl
theorem PM_s2 : (PMc H cs m k L).set (H.length + 2) (.clm k' 6) = PMc H cs m k' L := by unfold PMc; rw [hset]; rfl
theorem PM_sat (j : Nat) (o : VObj) : (PMc H cs m k L).set (H.length + (3 + j)) o = PMc H cs m k (L.set j o) := by unfold PMc; rw [hset, show 3 + j = j + 3 by omega]; rfl
theorem PM_len : (PMc H cs m k L).length = H.length + (3 + L.length) := by simp [PMc]; omega
end
theorem v_eqNil (b : Bool) : vbinK T .eql 72 (.p (.ifc b)) (.p (.ifc true)) (.const .nilIface) = some (vb b) := by
 simp only [vbinK, t_error]
set_option maxRecDepth 8000 in
set_option maxHeartbeats 4000000 in
theorem pread_v (s : By) (M : Mem) (hs : s.length ≤ 9223372036854775807) : VC Tryz.prog 12 [vs s] M (fun r M' => M' = M ∧ r = rsReadV (rsRead s)) := by
 refine VC_own' T_ok (f := 12) (fn := Tryz.f12) (by kernel_rfl) rfl Tryz.ntmps12 (by rfl) (by rfl) ?_
 ((repeat refine Ws ?_);refine W_regionE T_ok ?_; intro Kn hKn)
 ((simp (maxSteps := 1000000) only [VL,VM,↓VG,reduceIte,reduceCtorEq,zA,zB,zC,zD,zE,zF,zG,zH,zI,zJ]); rw [hKn];clear hKn Kn;simp only [QV,reduceIte,reduceCtorEq,Nat.reduceEqDiff])
 ((repeat refine Ws ?_);refine W_regionE T_ok ?_; intro Kn hKn)
 rcases Nat.lt_or_ge 1500 s.length with h15 | h15
 ·have k1 : ((1500 : Int) < (s.length : Int)) = True := eq_true (by omega)
  ((simp (maxSteps := 1000000) only [VL,VM,↓VG,reduceIte,reduceCtorEq,zA,zB,zC,zD,zE,zF,zG,zH,zI,zJ, tx_size, k1]); rw [hKn];clear hKn Kn;simp only [QV,reduceIte,reduceCtorEq,Nat.reduceEqDiff])
  ((repeat refine Ws ?_);refine Wt (by first|rfl|simp only [EV,zF,reduceIte]) ?_)
  ((repeat refine Ws ?_);refine W_regionE T_ok ?_; intro Kn hKn)
  ((simp (maxSteps := 1000000) only [VL,VM,↓VG,reduceIte,reduceCtorEq,zA,zB,zC,zD,zE,zF,zG,zH,zI,zJ]); rw [hKn];clear hKn Kn;simp only [QV,reduceIte,reduceCtorEq,Nat.reduceEqDiff])
  rw [show rsRead s = (y0, 0, 10) by unfold rsRead; rw [if_pos h15]]
  refine W_nilobj (id := M.H.length) (off := 0) (k := 3) (k0 := 0) (cs := [.sf 0 [], .sf 0 [], vi 0]) (by simp) rfl ?_
  refine W_nilobj (id := M.H.length) (off := 1) (k := 6) (k0 := 0) (cs := [.p (.sl 3 []), .sf 0 [], vi 0]) (by simp) rfl ?_
  refine W_eqM (M' := ⟨M.H ++ [.obj (yardC y0)], M.lg ++ []⟩) (by simp [y0]) ?_
  (repeat refine Ws ?_)
  refine W_ret ?_
  try simp only [thenQ, blockQ]
  refine own_retR rfl (by simp) rfl rfl rfl rfl
 have k1 : ((1500 : Int) < (s.length : Int)) = False := eq_false (by omega)
 ((simp (maxSteps := 1000000) only [VL,VM,↓VG,reduceIte,reduceCtorEq,zA,zB,zC,zD,zE,zF,zG,zH,zI,zJ, tx_size, k1]); rw [hKn];clear hKn Kn;simp only [QV,reduceIte,reduceCtorEq,Nat.reduceEqDiff])
 ((repeat refine Ws ?_);refine Wf (by first|rfl|simp only [EV,zF,reduceIte]) ?_)
 (((repeat refine Ws ?_);refine W_skip ?_); simp only [QV,reduceIte,reduceCtorEq,Nat.reduceEqDiff])
 have hlen := cutL_len 10 s
 have hpos := cutL_pos 10 s
 have hpart := cutL_part 10 s
 ((repeat refine Ws ?_);refine W_regionE T_ok ?_; intro Kn hKn)
 simp (maxSteps := 1000000) only [VL,VM,↓VG,reduceIte,reduceCtorEq,zA,zB,zC,zD,zE,zF,zG,zH,zI,zJ, lit10]
 apply call_eq (f := 36) (fn := Tryz.f36) (by kernel_rfl) (by rfl)
 ·exact split_v (l := s) (c := 10) (by omega) _
 ((simp (maxSteps := 1000000) only [VL,VM,↓VG,reduceIte,reduceCtorEq,zA,zB,zC,zD,zE,zF,zG,zH,zI,zJ]); rw [hKn];clear hKn Kn;simp only [QV,reduceIte,reduceCtorEq,Nat.reduceEqDiff])
 have hread : rsRead s = match rsRun 0 (y0, false) ((cutL 10 s).take ((cutL 10 s).length - 1)) with
  | .inl i => (y0, (i : Int) + 1, 2)
  | .inr st => rsEnd (cutL 10 s) st := by
  unfold rsRead
  rw [if_neg (by omega)]
  rfl
 generalize cutL 10 s = rows at hlen hpos hpart hread ⊢
 have k2 : -9223372036854775808 ≤ (rows.length : Int) - 1 ∧ (rows.length : Int) - 1 < 9223372036854775808 := by omega
 have hidx : ((rows.length : Int) - 1).toNat = rows.length - 1 := by omega
 have hge0 : (0 ≤ (rows.length : Int) - 1) = True := eq_true (by omega)
 ((repeat refine Ws ?_);refine W_regionE T_ok ?_; intro Kn hKn)
 ((simp (maxSteps := 1000000) only [VL,VM,↓VG,reduceIte,reduceCtorEq,zA,zB,zC,zD,zE,zF,zG,zH,zI,zJ, strs_len, k2]); rw [hKn];clear hKn Kn;simp only [QV,reduceIte,reduceCtorEq,Nat.reduceEqDiff])
 (repeat refine Ws ?_)
 refine W_ghost (id := M.H.length) (off := 0) (k := 3) (k0 := 0) (cs := [.sf 0 [], .sf 0 [], vi 0]) (by simp) rfl ?_
 refine W_ghost (id := M.H.length) (off := 1) (k := 6) (k0 := 0) (cs := [.so (M.H.length + 1) 3 [], .sf 0 [], vi 0]) (by simp) rfl ?_
 refine W_eqM (M' := ⟨PM M.H y0 [], M.lg ++ [(M.H.length, M.H.length + 1), (M.H.length, M.H.length + 2)]⟩) (by simp [PMc, y0]) ?_
 ((repeat refine Ws ?_);refine W_regionE T_ok ?_; intro Kn hKn)
 ((simp (maxSteps := 1000000) only [VL,VM,↓VG,reduceIte,reduceCtorEq,zA,zB,zC,zD,zE,zF,zG,zH,zI,zJ]); rw [hKn];clear hKn Kn;simp only [QV,reduceIte,reduceCtorEq,Nat.reduceEqDiff])
 ((repeat refine Ws ?_);refine W_regionE T_ok ?_; intro Kn hKn)
 have k5 : (rows.length - 1 ≤ rows.length) = True := eq_true (by omega)
 have hrl : (rows.take (rows.length - 1)).length = rows.length - 1 := by rw [List.length_take]; omega
 ((simp (maxSteps := 1000000) only [VL,VM,↓VG,reduceIte,reduceCtorEq,zA,zB,zC,zD,zE,zF,zG,zH,zI,zJ, strs_len, hidx, hge0, k5, decide_true, strs_take, hrl]); rw [hKn];clear hKn Kn;simp only [QV,reduceIte,reduceCtorEq,Nat.reduceEqDiff])
 have hrat : ∀ i, i < rows.length - 1 → (rows.take (rows.length - 1))[i]? = rows[i]? := fun i hi => by rw [List.getElem?_take, if_pos hi]
 generalize hrs : rows.take (rows.length - 1) = rs at hrl hrat ⊢
 ((repeat refine Ws ?_);refine W_block ?_; (repeat refine Ws ?_)); refine W_loopS (fun z : RsS => [(2, .ptr M.H.length 0), (5, strsW rows), (6, vi ((rows.length : Int) - 1)), (7, vb z.b), (29, strsW rs), (30, vi ((rows.length - 1 : Nat) : Int)), (31, vi z.i)]) (fun z => ⟨PM M.H z.y z.L, M.lg ++ [(M.H.length, M.H.length + 1), (M.H.length, M.H.length + 2)]⟩) (fun z => rows.length - z.i) (fun z => z.i ≤ rows.length - 1 ∧ rsRun 0 (y0, false) (rows.take z.i) = .inr (z.y, z.b) ∧ RsOk z.i z.y) ⟨0, y0, false, []⟩ ⟨Nat.zero_le _, rfl, ⟨Nat.le_refl _, Nat.le_refl _, by simp [y0]⟩⟩ ⟨rfl, rfl, rfl, rfl, rfl, rfl, rfl, trivial⟩ rfl ?_
 rintro ⟨i, y, b, L⟩ ⟨hi, hrun, hok⟩
 simp only at hi hrun hok
 have k3 : -9223372036854775808 ≤ (i : Int) + 1 ∧ (i : Int) + 1 < 9223372036854775808 := by omega
 rcases Nat.lt_or_ge i (rows.length - 1) with hlt | hge
 rotate_left
 ·obtain rfl : i = rows.length - 1 := by omega
  have hres0 : rsRead s = rsEnd rows (y, b) := by rw [hread, hrun]
  have k4 : (((rows.length - 1 : Nat) : Int) < ((rows.length - 1 : Nat) : Int)) = False := eq_false (by omega)
  have hlt2 : rows.length - 1 < rows.length := by omega
  have hx := strs_at (List.getElem?_eq_getElem hlt2)
  have hlast : rows.getD (rows.length - 1) [] = rows[rows.length - 1] := by rw [List.getD_eq_getElem?_getD, List.getElem?_eq_getElem hlt2]; rfl
  have k6 : -9223372036854775808 ≤ (rows.length : Int) - 1 + 1 ∧ (rows.length : Int) - 1 + 1 < 9223372036854775808 := by omega
  have q6 : vbin T .add 3 (vi ((rows.length : Int) - 1)) (vi 1) = some (vi rows.length) := by
   rw [v_add T 3 _ _ k6]
   congr 3
   omega
  generalize rows[rows.length - 1] = last at hx hlast
  ((repeat refine Ws ?_);refine W_regionE T_ok ?_; intro Kn hKn)
  ((simp (maxSteps := 1000000) only [VL,VM,↓VG,reduceIte,reduceCtorEq,zA,zB,zC,zD,zE,zF,zG,zH,zI,zJ, k4]); rw [hKn];clear hKn Kn;simp only [QV,reduceIte,reduceCtorEq,Nat.reduceEqDiff])
  ((repeat refine Ws ?_);refine Wf (by first|rfl|simp only [EV,zF,reduceIte]) ?_)
  (((repeat refine Ws ?_);refine W_exit ?_); simp only [QV,reduceIte,reduceCtorEq,Nat.reduceEqDiff])
  ((repeat refine Ws ?_);refine W_regionE T_ok ?_; intro Kn hKn)
  cases b with
  | false =>
   have hres : rsRead s = (y0, (rows.length : Int), 2) := by
    rw [hres0]
    unfold rsEnd
    rw [if_pos (.inl rfl)]
   ((simp (maxSteps := 1000000) only [VL,VM,↓VG,reduceIte,reduceCtorEq,zA,zB,zC,zD,zE,zF,zG,zH,zI,zJ]); rw [hKn];clear hKn Kn;simp only [QV,reduceIte,reduceCtorEq,Nat.reduceEqDiff])
   ((repeat refine Ws ?_);refine Wt (by first|rfl|simp only [EV,zF,reduceIte]) ?_)
   ((repeat refine Ws ?_);refine W_regionE T_ok ?_; intro Kn hKn)
   ((simp (maxSteps := 1000000) only [VL,VM,↓VG,reduceIte,reduceCtorEq,zA,zB,zC,zD,zE,zF,zG,zH,zI,zJ, q6, PM_0, PM_s0]); rw [hKn];clear hKn Kn;simp only [QV,reduceIte,reduceCtorEq,Nat.reduceEqDiff])
   rw [hres]
   refine W_nilobj (id := M.H.length) (off := 0) (k := 3) (k0 := 0) (cs := [.sf 0 [], .sf 0 [], vi 0]) PM_0 rfl ?_
   refine W_nilobj (id := M.H.length) (off := 1) (k := 6) (k0 := 0) (cs := [.p (.sl 3 []), .sf 0 [], vi 0]) (by simp only [PM_s0]; exact PM_0) rfl ?_
   refine W_eqM (M' := ⟨M.H ++ .obj (yardC y0) :: .clm y.ramps.length 3 :: .clm y.carts.length 6 :: L, M.lg ++ [(M.H.length, M.H.length + 1), (M.H.length, M.H.length + 2)]⟩) (by simp only [PM_s0]; rfl) ?_
   (repeat refine Ws ?_)
   refine W_ret ?_
   try simp only [thenQ, blockQ]
   refine own_retR rfl (by simp) rfl rfl rfl rfl
  | true =>
   by_cases hl : last = []
   rotate_left
   ·have k5 : (last = []) = False := eq_false hl
    have hres : rsRead s = (y0, (rows.length : Int), 2) := by
     rw [hres0]
     unfold rsEnd
     rw [if_pos (.inr (by rw [hlast]; exact hl))]
    ((simp (maxSteps := 1000000) only [VL,VM,↓VG,reduceIte,reduceCtorEq,zA,zB,zC,zD,zE,zF,zG,zH,zI,zJ, hidx, hge0, hx, litNil, v_neS, k5]); rw [hKn];clear hKn Kn;simp only [QV,reduceIte,reduceCtorEq,Nat.reduceEqDiff])
    ((repeat refine Ws ?_);refine Wt (by first|rfl|simp only [EV,zF,reduceIte]) ?_)
    ((repeat refine Ws ?_);refine W_regionE T_ok ?_; intro Kn hKn)
    ((simp (maxSteps := 1000000) only [VL,VM,↓VG,reduceIte,reduceCtorEq,zA,zB,zC,zD,zE,zF,zG,zH,zI,zJ, q6, PM_0, PM_s0]); rw [hKn];clear hKn Kn;simp only [QV,reduceIte,reduceCtorEq,Nat.reduceEqDiff])
    rw [hres]
    refine W_nilobj (id := M.H.length) (off := 0) (k := 3) (k0 := 0) (cs := [.sf 0 [], .sf 0 [], vi 0]) PM_0 rfl ?_
    refine W_nilobj (id := M.H.length) (off := 1) (k := 6) (k0 := 0) (cs := [.p (.sl 3 []), .sf 0 [], vi 0]) (by simp only [PM_s0]; exact PM_0) rfl ?_
    refine W_eqM (M' := ⟨M.H ++ .obj (yardC y0) :: .clm y.ramps.length 3 :: .clm y.carts.length 6 :: L, M.lg ++ [(M.H.length, M.H.length + 1), (M.H.length, M.H.length + 2)]⟩) (by simp only [PM_s0]; rfl) ?_
    (repeat refine Ws ?_)
    refine W_ret ?_
    try simp only [thenQ, blockQ]
    refine own_retR rfl (by simp) rfl rfl rfl rfl
   have k5 : (last = []) = True := eq_true hl
   ((simp (maxSteps := 1000000) only [VL,VM,↓VG,reduceIte,reduceCtorEq,zA,zB,zC,zD,zE,zF,zG,zH,zI,zJ, hidx, hge0, hx, litNil, v_neS, k5]); rw [hKn];clear hKn Kn;simp only [QV,reduceIte,reduceCtorEq,Nat.reduceEqDiff])
   ((repeat refine Ws ?_);refine Wf (by first|rfl|simp only [EV,zF,reduceIte]) ?_)
   (((repeat refine Ws ?_);refine W_skip ?_); simp only [QV,reduceIte,reduceCtorEq,Nat.reduceEqDiff])
   have o1 := hok.r
   have o2 := hok.c
   ((repeat refine Ws ?_);refine W_regionE T_ok ?_; intro Kn hKn)
   simp (maxSteps := 1000000) only [VL,VM,↓VG,reduceIte,reduceCtorEq,zA,zB,zC,zD,zE,zF,zG,zH,zI,zJ, PM_0]
   apply call_eq (f := 28) (fn := Tryz.f28) (by kernel_rfl) (by rfl)
   ·exact check_v y _ (by omega) (by omega) (fun c hc => Nat.le_trans (hok.l c hc) (by omega))
   ((simp (maxSteps := 1000000) only [VL,VM,↓VG,reduceIte,reduceCtorEq,zA,zB,zC,zD,zE,zF,zG,zH,zI,zJ]); rw [hKn];clear hKn Kn;simp only [QV,reduceIte,reduceCtorEq,Nat.reduceEqDiff])
   ((repeat refine Ws ?_);refine W_regionE T_ok ?_; intro Kn hKn)
   by_cases h1 : yErr y = 0
   ·have k6 : (yErr y = 0) = True := eq_true h1
    have hres : rsRead s = (y, 0, 0) := by
     rw [hres0]
     unfold rsEnd
     rw [if_neg, if_pos h1]
     rintro (h | h)
     ·cases h
     ·rw [hlast] at h
      exact h hl
    ((simp (maxSteps := 1000000) only [VL,VM,↓VG,reduceIte,reduceCtorEq,zA,zB,zC,zD,zE,zF,zG,zH,zI,zJ, k6]); rw [hKn];clear hKn Kn;simp only [QV,reduceIte,reduceCtorEq,Nat.reduceEqDiff])
    ((repeat refine Ws ?_);refine Wf (by first|rfl|simp only [EV,zF,reduceIte]) ?_)
    (((repeat refine Ws ?_);refine W_skip ?_); simp only [QV,reduceIte,reduceCtorEq,Nat.reduceEqDiff])
    ((repeat refine Ws ?_);refine W_regionE T_ok ?_; intro Kn hKn)
    ((simp (maxSteps := 1000000) only [VL,VM,↓VG,reduceIte,reduceCtorEq,zA,zB,zC,zD,zE,zF,zG,zH,zI,zJ, PM_0, PM_s0]); rw [hKn];clear hKn Kn;simp only [QV,reduceIte,reduceCtorEq,Nat.reduceEqDiff])
    rw [hres]
    (repeat refine Ws ?_)
    refine W_ret ?_
    try simp only [thenQ, blockQ]
    refine own_retR rfl (by simp) rfl rfl rfl rfl
   ·have k6 : (yErr y = 0) = False := eq_false h1
    have hres : rsRead s = (y0, 0, yErr y) := by
     rw [hres0]
     unfold rsEnd
     rw [if_neg, if_neg h1]
     rintro (h | h)
     ·cases h
     ·rw [hlast] at h
      exact h hl
    ((simp (maxSteps := 1000000) only [VL,VM,↓VG,reduceIte,reduceCtorEq,zA,zB,zC,zD,zE,zF,zG,zH,zI,zJ, k6]); rw [hKn];clear hKn Kn;simp only [QV,reduceIte,reduceCtorEq,Nat.reduceEqDiff])
    ((repeat refine Ws ?_);refine Wt (by first|rfl|simp only [EV,zF,reduceIte]) ?_)
    ((repeat refine Ws ?_);refine W_regionE T_ok ?_; intro Kn hKn)
    ((simp (maxSteps := 1000000) only [VL,VM,↓VG,reduceIte,reduceCtorEq,zA,zB,zC,zD,zE,zF,zG,zH,zI,zJ, PM_0, PM_s0]); rw [hKn];clear hKn Kn;simp only [QV,reduceIte,reduceCtorEq,Nat.reduceEqDiff])
    rw [hres]
    refine W_nilobj (id := M.H.length) (off := 0) (k := 3) (k0 := 0) (cs := [.sf 0 [], .sf 0 [], vi 0]) PM_0 rfl ?_
    refine W_nilobj (id := M.H.length) (off := 1) (k := 6) (k0 := 0) (cs := [.p (.sl 3 []), .sf 0 [], vi 0]) (by simp only [PM_s0]; exact PM_0) rfl ?_
    refine W_eqM (M' := ⟨M.H ++ .obj (yardC y0) :: .clm y.ramps.length 3 :: .clm y.carts.length 6 :: L, M.lg ++ [(M.H.length, M.H.length + 1), (M.H.length, M.H.length + 2)]⟩) (by simp only [PM_s0]; rfl) ?_
    (repeat refine Ws ?_)
    refine W_ret ?_
    try simp only [thenQ, blockQ]
    refine own_retR rfl (by simp) rfl rfl rfl rfl
 have hlt2 : i < rows.length := by omega
 have k4 : ((i : Int) < ((rows.length - 1 : Nat) : Int)) = True := eq_true (by omega)
 have hx : (strsV rs)[i]? = some [.str (tx rows[i])] := strs_at (by rw [hrat i hlt, List.getElem?_eq_getElem hlt2])
 have hp := hpart rows[i] (List.getElem_mem hlt2)
 have hst := rsRun_step hlt2 hrun
 generalize rows[i] = row at hx hp hst
 ((repeat refine Ws ?_);refine W_regionE T_ok ?_; intro Kn hKn)
 ((simp (maxSteps := 1000000) only [VL,VM,↓VG,reduceIte,reduceCtorEq,zA,zB,zC,zD,zE,zF,zG,zH,zI,zJ, k4]); rw [hKn];clear hKn Kn;simp only [QV,reduceIte,reduceCtorEq,Nat.reduceEqDiff])
 ((repeat refine Ws ?_);refine Wt (by first|rfl|simp only [EV,zF,reduceIte]) ?_)
 (((repeat refine Ws ?_);refine W_skip ?_); simp only [QV,reduceIte,reduceCtorEq,Nat.reduceEqDiff])
 ((repeat refine Ws ?_);refine W_block ?_)
 ((repeat refine Ws ?_);refine W_regionE T_ok ?_; intro Kn hKn)
 ((simp (maxSteps := 1000000) only [VL,VM,↓VG,reduceIte,reduceCtorEq,zA,zB,zC,zD,zE,zF,zG,zH,zI,zJ, hx]); rw [hKn];clear hKn Kn;simp only [QV,reduceIte,reduceCtorEq,Nat.reduceEqDiff])
 ((repeat refine Ws ?_);refine W_regionE T_ok ?_; intro Kn hKn)
 simp (maxSteps := 1000000) only [VL,VM,↓VG,reduceIte,reduceCtorEq,zA,zB,zC,zD,zE,zF,zG,zH,zI,zJ, lit32]
 apply call_eq (f := 36) (fn := Tryz.f36) (by kernel_rfl) (by rfl)
 ·exact split_v (l := row) (c := 32) (by omega) _
 ((simp (maxSteps := 1000000) only [VL,VM,↓VG,reduceIte,reduceCtorEq,zA,zB,zC,zD,zE,zF,zG,zH,zI,zJ]); rw [hKn];clear hKn Kn;simp only [QV,reduceIte,reduceCtorEq,Nat.reduceEqDiff])
 have hsn := @rsStep_none i y b row
 have hss := @rsStep_some i y row
 have hplen := cutL_len 32 row
 have hppos := cutL_pos 32 row
 have hppart := cutL_part 32 row
 generalize cutL 32 row = ps at hsn hss hplen hppos hppart ⊢
 have hw0 : ps.headD [] = ps[0] := by rw [List.headD_eq_head?_getD, List.head?_eq_getElem?, List.getElem?_eq_getElem hppos]; rfl
 have hx0 := strs_at (List.getElem?_eq_getElem hppos)
 rw [hw0] at hsn hss
 generalize ps[0] = w at hsn hss hx0
 generalize hI0 : (!b && (decide (w = wYard) == decide (i = 0))) = is0 at hsn
 ((repeat refine Ws ?_);refine W_regionE T_ok ?_; intro Kn hKn)
 have hK : ∀ e', Sub [(2, .ptr M.H.length 0), (5, strsW rows), (6, vi ((rows.length : Int) - 1)), (7, vb b), (8, vi i), (10, strsW ps), (11, vb is0), (29, strsW rs), (30, vi ((rows.length - 1 : Nat) : Int)), (31, vi i)] e' → Kn e' ⟨PM M.H y L, M.lg ++ [(M.H.length, M.H.length + 1), (M.H.length, M.H.length + 2)]⟩ := by
  intro e' hsub
  rw [hKn]
  simp only [QV,reduceIte,reduceCtorEq,Nat.reduceEqDiff]
  clear hKn Kn
  obtain ⟨h2, h5, h6, h7, h8, h10, h11, h29, h30, h31, -⟩ := hsub
  ((repeat refine Ws ?_);refine W_regionE T_ok ?_; intro Kn hKn)
  ((simp (maxSteps := 1000000) only [VL,VM,↓VG,reduceIte,reduceCtorEq,zA,zB,zC,zD,zE,zF,zG,zH,zI,zJ]); rw [hKn];clear hKn Kn;simp only [QV,reduceIte,reduceCtorEq,Nat.reduceEqDiff])
  (repeat refine Ws ?_)
  refine W_tok (t := 12) (k := 1) rfl ?_
  refine W_eqM (M' := ⟨PM M.H y (L ++ [.clm 0 1]), M.lg ++ [(M.H.length, M.H.length + 1), (M.H.length, M.H.length + 2)]⟩) (by show (⟨_ ++ _, _⟩ : Mem) = _; rw [PM_app]) ?_
  have k5 : (1 ≤ ps.length) = True := eq_true (by omega)
  have ht : (strsV ps).take ps.length = strsV ps := by rw [strs_take, List.take_length]
  ((repeat refine Ws ?_);refine W_regionE T_ok ?_; intro Kn hKn)
  ((simp (maxSteps := 1000000) only [VL,VM,↓VG,reduceIte,reduceCtorEq,zA,zB,zC,zD,zE,zF,zG,zH,zI,zJ, h10, strs_len, k5, decide_true, ht, strs_drop, PM_len]); rw [hKn];clear hKn Kn;simp only [QV,reduceIte,reduceCtorEq,Nat.reduceEqDiff])
  have hwl : (ps.drop 1).length = ps.length - 1 := by rw [List.length_drop]
  have hwp : ∀ q ∈ ps.drop 1, q.length ≤ row.length := fun q hq => hppart q (List.mem_of_mem_drop hq)
  generalize ps.drop 1 = ws at hsn hss hwl hwp ⊢
  ((repeat refine Ws ?_);refine W_block ?_; (repeat refine Ws ?_)); refine W_loopS (fun z : Nat × List Int × Bool => [(2, .ptr M.H.length 0), (5, strsW rows), (6, vi ((rows.length : Int) - 1)), (7, vb b), (8, vi i), (10, strsW ps), (11, vb z.2.2), (12, .so (M.H.length + (3 + L.length)) 1 (z.2.1.map intP)), (29, strsW rs), (30, vi ((rows.length - 1 : Nat) : Int)), (31, vi i), (50, strsW ws), (51, vi ws.length), (52, vi z.1)]) (fun z => ⟨PM M.H y (L ++ [.clm z.2.1.length 1]), M.lg ++ [(M.H.length, M.H.length + 1), (M.H.length, M.H.length + 2)]⟩) (fun z => ws.length - z.1) (fun z => z.1 ≤ ws.length ∧ WdI is0 ws z.1 z.2.1 z.2.2) (0, [], is0) ⟨Nat.zero_le _, ⟨rfl, fun h => ⟨h, rfl⟩, fun h => .inl h⟩⟩ ?_ ?_ ?_
  ·refine ⟨?_, ?_, ?_, ?_, ?_, ?_, ?_, rfl, ?_, ?_, ?_, rfl, ?_, rfl, trivial⟩ <;> simp [get_cons, h2, h5, h6, h7, h8, h10, h11, h29, h30, h31]
  ·rfl
  rintro ⟨k, xs, is⟩ ⟨hk, hW⟩
  simp only at hk hW
  have kk : -9223372036854775808 ≤ (k : Int) + 1 ∧ (k : Int) + 1 < 9223372036854775808 := by omega
  have hxl := hW.len
  ((repeat refine Ws ?_);refine W_regionE T_ok ?_; intro Kn hKn)
  rcases Nat.lt_or_ge k ws.length with hkl | hkg
  rotate_left
  ·obtain rfl : k = ws.length := by omega
   have k6 : ((ws.length : Int) < (ws.length : Int)) = False := eq_false (by omega)
   have hWt := hW.t
   have hWf := hW.f
   rw [List.take_length] at hWt hWf
   ((simp (maxSteps := 1000000) only [VL,VM,↓VG,reduceIte,reduceCtorEq,zA,zB,zC,zD,zE,zF,zG,zH,zI,zJ, k6]); rw [hKn];clear hKn Kn;simp only [QV,reduceIte,reduceCtorEq,Nat.reduceEqDiff])
   ((repeat refine Ws ?_);refine Wf (by first|rfl|simp only [EV,zF,reduceIte]) ?_)
   (((repeat refine Ws ?_);refine W_exit ?_); simp only [QV,reduceIte,reduceCtorEq,Nat.reduceEqDiff])
   (repeat refine Ws ?_)
   refine W_blockN (R := fun e' M' => (∃ y' b' L', rsStep i (y, b) row = some (y', b') ∧ M' = ⟨PM M.H y' L', M.lg ++ [(M.H.length, M.H.length + 1), (M.H.length, M.H.length + 2)]⟩ ∧ Sub [(2, .ptr M.H.length 0), (5, strsW rows), (6, vi ((rows.length : Int) - 1)), (7, vb b'), (8, vi i), (11, vb true), (29, strsW rs), (30, vi ((rows.length - 1 : Nat) : Int)), (31, vi i)] e') ∨
    (∃ y' L', rsStep i (y, b) row = none ∧ M' = ⟨PM M.H y' L', M.lg ++ [(M.H.length, M.H.length + 1), (M.H.length, M.H.length + 2)]⟩ ∧ Sub [(2, .ptr M.H.length 0), (8, vi i), (11, vb false)] e')) ?_ ?_
   rotate_left
   ·rintro e' M' (⟨y', b', L', hs1, rfl, g2, g5, g6, g7, g8, g11, g29, g30, g31, -⟩ | ⟨y', L', hs1, rfl, g2, g8, g11, -⟩)
    ·rw [hs1] at hst
     simp only [QV,reduceIte,reduceCtorEq,Nat.reduceEqDiff]
     ((repeat refine Ws ?_);refine W_regionE T_ok ?_; intro Kn hKn)
     ((simp (maxSteps := 1000000) only [VL,VM,↓VG,reduceIte,reduceCtorEq,zA,zB,zC,zD,zE,zF,zG,zH,zI,zJ, g11]); rw [hKn];clear hKn Kn;simp only [QV,reduceIte,reduceCtorEq,Nat.reduceEqDiff])
     ((repeat refine Ws ?_);refine Wf (by first|rfl|simp only [EV,zF,reduceIte]) ?_)
     (((repeat refine Ws ?_);refine W_skip ?_); simp only [QV,reduceIte,reduceCtorEq,Nat.reduceEqDiff])
     ((repeat refine Ws ?_);refine W_regionE T_ok ?_; intro Kn hKn)
     ((simp (maxSteps := 1000000) only [VL,VM,↓VG,reduceIte,reduceCtorEq,zA,zB,zC,zD,zE,zF,zG,zH,zI,zJ, g31, k3]); rw [hKn];clear hKn Kn;simp only [QV,reduceIte,reduceCtorEq,Nat.reduceEqDiff])
     refine LoopK.mk ⟨i + 1, y', b', L'⟩ (by simp only; omega) ⟨by simp only; omega, hst, rsStep_ok hs1 hok (by omega)⟩ ⟨?_, ?_, ?_, ?_, ?_, ?_, rfl, trivial⟩ rfl
     all_goals simp [get_cons, g2, g5, g6, g7, g29, g30]
    ·rw [hs1] at hst
     have hbad := rsRun_bad (n := rows.length - 1) (by omega) hst
     have hres : rsRead s = (y0, (i : Int) + 1, 2) := by rw [hread, hbad]
     simp only [QV,reduceIte,reduceCtorEq,Nat.reduceEqDiff]
     ((repeat refine Ws ?_);refine W_regionE T_ok ?_; intro Kn hKn)
     ((simp (maxSteps := 1000000) only [VL,VM,↓VG,reduceIte,reduceCtorEq,zA,zB,zC,zD,zE,zF,zG,zH,zI,zJ, g11]); rw [hKn];clear hKn Kn;simp only [QV,reduceIte,reduceCtorEq,Nat.reduceEqDiff])
     ((repeat refine Ws ?_);refine Wt (by first|rfl|simp only [EV,zF,reduceIte]) ?_)
     ((repeat refine Ws ?_);refine W_regionE T_ok ?_; intro Kn hKn)
     ((simp (maxSteps := 1000000) only [VL,VM,↓VG,reduceIte,reduceCtorEq,zA,zB,zC,zD,zE,zF,zG,zH,zI,zJ, g8, k3, g2, PM_0, PM_s0]); rw [hKn];clear hKn Kn;simp only [QV,reduceIte,reduceCtorEq,Nat.reduceEqDiff])
     rw [hres]
     refine W_nilobj (id := M.H.length) (off := 0) (k := 3) (k0 := 0) (cs := [.sf 0 [], .sf 0 [], vi 0]) PM_0 rfl ?_
     refine W_nilobj (id := M.H.length) (off := 1) (k := 6) (k0 := 0) (cs := [.p (.sl 3 []), .sf 0 [], vi 0]) (by simp only [PM_s0]; exact PM_0) rfl ?_
     refine W_eqM (M' := ⟨M.H ++ .obj (yardC y0) :: .clm y'.ramps.length 3 :: .clm y'.carts.length 6 :: L', M.lg ++ [(M.H.length, M.H.length + 1), (M.H.length, M.H.length + 2)]⟩) (by simp only [PM_s0]; rfl) ?_
     (repeat refine Ws ?_)
     refine W_ret ?_
     try simp only [thenQ, blockQ]
     refine own_retR rfl (by simp) rfl ?_ rfl rfl
     simp [get_cons, g2]
   cases is with
   | false =>
    have hs0 : rsStep i (y, b) row = none := hsn (hWf rfl)
    ((repeat refine Ws ?_);refine W_regionE T_ok ?_; intro Kn hKn)
    ((simp (maxSteps := 1000000) only [VL,VM,↓VG,reduceIte,reduceCtorEq,zA,zB,zC,zD,zE,zF,zG,zH,zI,zJ]); rw [hKn];clear hKn Kn;simp only [QV,reduceIte,reduceCtorEq,Nat.reduceEqDiff])
    ((repeat refine Ws ?_);refine Wt (by first|rfl|simp only [EV,zF,reduceIte]) ?_)
    ((repeat refine Ws ?_);refine W_skip ?_)
    exact ⟨rfl, rfl, .inr ⟨y, (L ++ [.clm xs.length 1]), hs0, rfl, ⟨rfl, rfl, rfl, trivial⟩⟩⟩
   | true =>
    obtain ⟨hi1, hnum⟩ := hWt rfl
    rw [hi1] at hI0
    simp only [Bool.and_eq_true, Bool.not_eq_true', beq_iff_eq] at hI0
    obtain ⟨rfl, hwi⟩ := hI0
    have hs0 := hss hnum
    ((repeat refine Ws ?_);refine W_regionE T_ok ?_; intro Kn hKn)
    ((simp (maxSteps := 1000000) only [VL,VM,↓VG,reduceIte,reduceCtorEq,zA,zB,zC,zD,zE,zF,zG,zH,zI,zJ]); rw [hKn];clear hKn Kn;simp only [QV,reduceIte,reduceCtorEq,Nat.reduceEqDiff])
    ((repeat refine Ws ?_);refine Wf (by first|rfl|simp only [EV,zF,reduceIte]) ?_)
    have hgx : (strsV ps)[0]? = some [.str (tx w)] := hx0
    by_cases hy1 : w = wYard
    ·have ky : (w = wYard) = True := eq_true hy1
     have hi0 : i = 0 := by
      rw [decide_eq_true hy1] at hwi
      exact of_decide_eq_true hwi.symm
     have hr : w ≠ wRamp := by rw [hy1]; decide
     have hc : w ≠ wCart := by rw [hy1]; decide
     have he : w ≠ wEnd := by rw [hy1]; decide
     have kr : (w = wRamp) = False := eq_false hr
     have kc : (w = wCart) = False := eq_false hc
     have ke : (w = wEnd) = False := eq_false he
     by_cases hl1 : xs.length = 1
     ·obtain ⟨a, rfl⟩ := one hl1
      have kl : (((1 : Nat) : Int) = 1) = True := eq_true rfl
      ((repeat refine Ws ?_);refine W_regionE T_ok ?_; intro Kn hKn)
      ((simp (maxSteps := 1000000) only [VL,VM,↓VG,reduceIte,reduceCtorEq,zA,zB,zC,zD,zE,zF,zG,zH,zI,zJ, hx0, litYard, litRamp, litCart, litEnd, v_eqS, ky, kl]); rw [hKn];clear hKn Kn;simp only [QV,reduceIte,reduceCtorEq,Nat.reduceEqDiff])
      ((repeat refine Ws ?_);refine Wt (by first|rfl|simp only [EV,zF,reduceIte]) ?_)
      ((repeat refine Ws ?_);refine W_regionE T_ok ?_; intro Kn hKn)
      simp (maxSteps := 1000000) only [VL,VM,↓VG,reduceIte,reduceCtorEq,zA,zB,zC,zD,zE,zF,zG,zH,zI,zJ, PM_at, PM_0, PM_s0]
      rw [hKn]
      exact ⟨rfl, rfl, .inl ⟨{ y with sweep := a }, false, (L ++ [.clm 1 1]), hs0.trans (by unfold rsPut; rw [if_pos hi0, if_pos ⟨hy1, rfl⟩]; rfl), rfl, ⟨rfl, rfl, rfl, rfl, rfl, rfl, rfl, rfl, rfl, trivial⟩⟩⟩
     ·have kl : ((xs.length : Int) = 1) = False := eq_false (by omega)
      ((repeat refine Ws ?_);refine W_regionE T_ok ?_; intro Kn hKn)
      ((simp (maxSteps := 1000000) only [VL,VM,↓VG,reduceIte,reduceCtorEq,zA,zB,zC,zD,zE,zF,zG,zH,zI,zJ, hx0, litYard, litRamp, litCart, litEnd, v_eqS, ky, kl]); rw [hKn];clear hKn Kn;simp only [QV,reduceIte,reduceCtorEq,Nat.reduceEqDiff])
      ((repeat refine Ws ?_);refine Wf (by first|rfl|simp only [EV,zF,reduceIte]) ?_)
      ((repeat refine Ws ?_);refine W_regionE T_ok ?_; intro Kn hKn)
      ((simp (maxSteps := 1000000) only [VL,VM,↓VG,reduceIte,reduceCtorEq,zA,zB,zC,zD,zE,zF,zG,zH,zI,zJ, hx0, litYard, litRamp, litCart, litEnd, v_eqS, kr]); rw [hKn];clear hKn Kn;simp only [QV,reduceIte,reduceCtorEq,Nat.reduceEqDiff])
      ((repeat refine Ws ?_);refine Wf (by first|rfl|simp only [EV,zF,reduceIte]) ?_)
      ((repeat refine Ws ?_);refine W_regionE T_ok ?_; intro Kn hKn)
      ((simp (maxSteps := 1000000) only [VL,VM,↓VG,reduceIte,reduceCtorEq,zA,zB,zC,zD,zE,zF,zG,zH,zI,zJ, hx0, litYard, litRamp, litCart, litEnd, v_eqS, kc]); rw [hKn];clear hKn Kn;simp only [QV,reduceIte,reduceCtorEq,Nat.reduceEqDiff])
      ((repeat refine Ws ?_);refine Wf (by first|rfl|simp only [EV,zF,reduceIte]) ?_)
      ((repeat refine Ws ?_);refine W_regionE T_ok ?_; intro Kn hKn)
      ((simp (maxSteps := 1000000) only [VL,VM,↓VG,reduceIte,reduceCtorEq,zA,zB,zC,zD,zE,zF,zG,zH,zI,zJ, hx0, litYard, litRamp, litCart, litEnd, v_eqS, ke]); rw [hKn];clear hKn Kn;simp only [QV,reduceIte,reduceCtorEq,Nat.reduceEqDiff])
      ((repeat refine Ws ?_);refine Wf (by first|rfl|simp only [EV,zF,reduceIte]) ?_)
      ((repeat refine Ws ?_);refine W_regionE T_ok ?_; intro Kn hKn)
      simp (maxSteps := 1000000) only [VL,VM,↓VG,reduceIte,reduceCtorEq,zA,zB,zC,zD,zE,zF,zG,zH,zI,zJ]
      rw [hKn]
      exact ⟨rfl, rfl, .inr ⟨y, (L ++ [.clm xs.length 1]), hs0.trans (by unfold rsPut; rw [if_pos hi0, if_neg (fun h => hl1 h.2)]), rfl, ⟨rfl, rfl, rfl, trivial⟩⟩⟩
    have ky : (w = wYard) = False := eq_false hy1
    have hi0 : ¬ i = 0 := by
     rw [decide_eq_false hy1] at hwi
     exact of_decide_eq_false hwi.symm
    ((repeat refine Ws ?_);refine W_regionE T_ok ?_; intro Kn hKn)
    ((simp (maxSteps := 1000000) only [VL,VM,↓VG,reduceIte,reduceCtorEq,zA,zB,zC,zD,zE,zF,zG,zH,zI,zJ, hx0, litYard, litRamp, litCart, litEnd, v_eqS, ky]); rw [hKn];clear hKn Kn;simp only [QV,reduceIte,reduceCtorEq,Nat.reduceEqDiff])
    ((repeat refine Ws ?_);refine Wf (by first|rfl|simp only [EV,zF,reduceIte]) ?_)
    have bad : ¬ (w = wRamp ∧ xs.length = 3 ∧ y.carts.length = 0) → ¬ (w = wCart ∧ 5 ≤ xs.length) → ¬ (w = wEnd ∧ xs.length = 1) → rsPut i y w xs = none := fun h1 h2 h3 => by
     unfold rsPut
     rw [if_neg hi0, if_neg h1, if_neg h2, if_neg h3]
    have qa : addLg M.H.length [M.H.length + 1] (M.lg ++ [(M.H.length, M.H.length + 1), (M.H.length, M.H.length + 2)]) = M.lg ++ [(M.H.length, M.H.length + 1), (M.H.length, M.H.length + 2)] := addLg_hasY (by simp)
    have qb : addLg M.H.length [M.H.length + 2] (M.lg ++ [(M.H.length, M.H.length + 1), (M.H.length, M.H.length + 2)]) = M.lg ++ [(M.H.length, M.H.length + 1), (M.H.length, M.H.length + 2)] := addLg_hasY (by simp)
    by_cases hr : w = wRamp
    ·have kr : (w = wRamp) = True := eq_true hr
     have hc : w ≠ wCart := by rw [hr]; decide
     have he : w ≠ wEnd := by rw [hr]; decide
     have kc : (w = wCart) = False := eq_false hc
     have ke : (w = wEnd) = False := eq_false he
     by_cases hl3 : xs.length = 3
     ·obtain ⟨a, c, d, rfl⟩ := three hl3
      have kl : (((3 : Nat) : Int) = 3) = True := eq_true rfl
      by_cases hcl : y.carts.length = 0
      ·have kcl : ((y.carts.length : Int) = 0) = True := eq_true (by omega)
       have q1 : ((y.ramps.length + 1) * 24 ≤ 140737488355328) = True := eq_true (by have := hok.r; omega)
       ((repeat refine Ws ?_);refine W_regionE T_ok ?_; intro Kn hKn)
       ((simp (maxSteps := 1000000) only [VL,VM,↓VG,reduceIte,reduceCtorEq,zA,zB,zC,zD,zE,zF,zG,zH,zI,zJ, hx0, litYard, litRamp, litCart, litEnd, v_eqS, kr, kl, kcl, PM_at, PM_0]); rw [hKn];clear hKn Kn;simp only [QV,reduceIte,reduceCtorEq,Nat.reduceEqDiff])
       ((repeat refine Ws ?_);refine Wt (by first|rfl|simp only [EV,zF,reduceIte]) ?_)
       (repeat refine Ws ?_)
       refine W_drawE T_ok [] (by kernel_rfl) (by kernel_rfl) ?_
       intro Kn hKn
       generalize hi : mkPlan _ = infs
       cbv at hi
       subst hi
       simp (maxSteps := 1000000) only [VL,VM,↓VG,reduceIte,reduceCtorEq,zA,zB,zC,zD,zE,zF,zG,zH,zI,zJ, PM_at, PM_0, PM_1, PM_s0, PM_s1, q1, qa]
       rw [hKn]
       refine ⟨rfl, rfl, .inl ⟨{ y with ramps := y.ramps ++ [⟨a, c, d⟩] }, false, L ++ [.clm 3 1], hs0.trans (by unfold rsPut; rw [if_neg hi0, if_pos ⟨hr, rfl, hcl⟩]; rfl), ?_, ⟨rfl, rfl, rfl, rfl, rfl, rfl, rfl, rfl, rfl, trivial⟩⟩⟩
       simp
      ·have kcl : ((y.carts.length : Int) = 0) = False := eq_false (by omega)
       ((repeat refine Ws ?_);refine W_regionE T_ok ?_; intro Kn hKn)
       ((simp (maxSteps := 1000000) only [VL,VM,↓VG,reduceIte,reduceCtorEq,zA,zB,zC,zD,zE,zF,zG,zH,zI,zJ, hx0, litYard, litRamp, litCart, litEnd, v_eqS, kr, kl, kcl, PM_at, PM_0]); rw [hKn];clear hKn Kn;simp only [QV,reduceIte,reduceCtorEq,Nat.reduceEqDiff])
       ((repeat refine Ws ?_);refine Wf (by first|rfl|simp only [EV,zF,reduceIte]) ?_)
       ((repeat refine Ws ?_);refine W_regionE T_ok ?_; intro Kn hKn)
       ((simp (maxSteps := 1000000) only [VL,VM,↓VG,reduceIte,reduceCtorEq,zA,zB,zC,zD,zE,zF,zG,zH,zI,zJ, hx0, litYard, litRamp, litCart, litEnd, v_eqS, kc]); rw [hKn];clear hKn Kn;simp only [QV,reduceIte,reduceCtorEq,Nat.reduceEqDiff])
       ((repeat refine Ws ?_);refine Wf (by first|rfl|simp only [EV,zF,reduceIte]) ?_)
       ((repeat refine Ws ?_);refine W_regionE T_ok ?_; intro Kn hKn)
       ((simp (maxSteps := 1000000) only [VL,VM,↓VG,reduceIte,reduceCtorEq,zA,zB,zC,zD,zE,zF,zG,zH,zI,zJ, hx0, litYard, litRamp, litCart, litEnd, v_eqS, ke]); rw [hKn];clear hKn Kn;simp only [QV,reduceIte,reduceCtorEq,Nat.reduceEqDiff])
       ((repeat refine Ws ?_);refine Wf (by first|rfl|simp only [EV,zF,reduceIte]) ?_)
       ((repeat refine Ws ?_);refine W_regionE T_ok ?_; intro Kn hKn)
       simp (maxSteps := 1000000) only [VL,VM,↓VG,reduceIte,reduceCtorEq,zA,zB,zC,zD,zE,zF,zG,zH,zI,zJ]
       rw [hKn]
       exact ⟨rfl, rfl, .inr ⟨y, (L ++ [.clm 3 1]), hs0.trans (bad (fun h => hcl h.2.2) (fun h => hc h.1) (fun h => he h.1)), rfl, ⟨rfl, rfl, rfl, trivial⟩⟩⟩
     ·have kl : ((xs.length : Int) = 3) = False := eq_false (by omega)
      ((repeat refine Ws ?_);refine W_regionE T_ok ?_; intro Kn hKn)
      ((simp (maxSteps := 1000000) only [VL,VM,↓VG,reduceIte,reduceCtorEq,zA,zB,zC,zD,zE,zF,zG,zH,zI,zJ, hx0, litYard, litRamp, litCart, litEnd, v_eqS, kr, kl]); rw [hKn];clear hKn Kn;simp only [QV,reduceIte,reduceCtorEq,Nat.reduceEqDiff])
      ((repeat refine Ws ?_);refine Wf (by first|rfl|simp only [EV,zF,reduceIte]) ?_)
      ((repeat refine Ws ?_);refine W_regionE T_ok ?_; intro Kn hKn)
      ((simp (maxSteps := 1000000) only [VL,VM,↓VG,reduceIte,reduceCtorEq,zA,zB,zC,zD,zE,zF,zG,zH,zI,zJ, hx0, litYard, litRamp, litCart, litEnd, v_eqS, kc]); rw [hKn];clear hKn Kn;simp only [QV,reduceIte,reduceCtorEq,Nat.reduceEqDiff])
      ((repeat refine Ws ?_);refine Wf (by first|rfl|simp only [EV,zF,reduceIte]) ?_)
      ((repeat refine Ws ?_);refine W_regionE T_ok ?_; intro Kn hKn)
      ((simp (maxSteps := 1000000) only [VL,VM,↓VG,reduceIte,reduceCtorEq,zA,zB,zC,zD,zE,zF,zG,zH,zI,zJ, hx0, litYard, litRamp, litCart, litEnd, v_eqS, ke]); rw [hKn];clear hKn Kn;simp only [QV,reduceIte,reduceCtorEq,Nat.reduceEqDiff])
      ((repeat refine Ws ?_);refine Wf (by first|rfl|simp only [EV,zF,reduceIte]) ?_)
      ((repeat refine Ws ?_);refine W_regionE T_ok ?_; intro Kn hKn)
      simp (maxSteps := 1000000) only [VL,VM,↓VG,reduceIte,reduceCtorEq,zA,zB,zC,zD,zE,zF,zG,zH,zI,zJ]
      rw [hKn]
      exact ⟨rfl, rfl, .inr ⟨y, (L ++ [.clm xs.length 1]), hs0.trans (bad (fun h => hl3 h.2.1) (fun h => hc h.1) (fun h => he h.1)), rfl, ⟨rfl, rfl, rfl, trivial⟩⟩⟩
    have kr : (w = wRamp) = False := eq_false hr
    ((repeat refine Ws ?_);refine W_regionE T_ok ?_; intro Kn hKn)
    ((simp (maxSteps := 1000000) only [VL,VM,↓VG,reduceIte,reduceCtorEq,zA,zB,zC,zD,zE,zF,zG,zH,zI,zJ, hx0, litYard, litRamp, litCart, litEnd, v_eqS, kr]); rw [hKn];clear hKn Kn;simp only [QV,reduceIte,reduceCtorEq,Nat.reduceEqDiff])
    ((repeat refine Ws ?_);refine Wf (by first|rfl|simp only [EV,zF,reduceIte]) ?_)
    by_cases hc : w = wCart
    ·have kc : (w = wCart) = True := eq_true hc
     have he : w ≠ wEnd := by rw [hc]; decide
     have ke : (w = wEnd) = False := eq_false he
     by_cases hl5 : 5 ≤ xs.length
     ·obtain ⟨a1, a2, a3, a4, a5, r, rfl⟩ := five hl5
      have hrl : r.length ≤ 100000 := by simp at hxl; omega
      have kl : ((5 : Int) ≤ ((r.length + 5 : Nat) : Int)) = True := eq_true (by omega)
      have q1 : ((y.carts.length + 1) * 64 ≤ 140737488355328) = True := eq_true (by have := hok.c; omega)
      ((repeat refine Ws ?_);refine W_regionE T_ok ?_; intro Kn hKn)
      ((simp (maxSteps := 1000000) only [VL,VM,↓VG,reduceIte,reduceCtorEq,zA,zB,zC,zD,zE,zF,zG,zH,zI,zJ, hx0, litYard, litRamp, litCart, litEnd, v_eqS, kc, kl]); rw [hKn];clear hKn Kn;simp only [QV,reduceIte,reduceCtorEq,Nat.reduceEqDiff])
      ((repeat refine Ws ?_);refine Wt (by first|rfl|simp only [EV,zF,reduceIte]) ?_)
      (repeat refine Ws ?_)
      refine W_drawE T_ok [] (by kernel_rfl) (by kernel_rfl) ?_
      intro Kn hKn
      generalize hi : mkPlan _ = infs
      cbv at hi
      subst hi
      simp (maxSteps := 1000000) only [VL,VM,↓VG,reduceIte,reduceCtorEq,zA,zB,zC,zD,zE,zF,zG,zH,zI,zJ, PM_at, PM_0, PM_2, PM_s0, PM_s2, List.take_length, q1, qb]
      rw [hKn]
      refine ⟨rfl, rfl, .inl ⟨{ y with carts := y.carts ++ [⟨a1, a2, ⟨a3, a4⟩, a5, r⟩] }, false, L ++ [.clm (r.length + 5) 1], hs0.trans (by unfold rsPut; rw [if_neg hi0, if_neg (fun h => hr h.1), if_pos ⟨hc, hl5⟩]; rfl), ?_, ⟨rfl, rfl, rfl, rfl, rfl, rfl, rfl, rfl, rfl, trivial⟩⟩⟩
      simp
     ·have kl : ((5 : Int) ≤ (xs.length : Int)) = False := eq_false (by omega)
      ((repeat refine Ws ?_);refine W_regionE T_ok ?_; intro Kn hKn)
      ((simp (maxSteps := 1000000) only [VL,VM,↓VG,reduceIte,reduceCtorEq,zA,zB,zC,zD,zE,zF,zG,zH,zI,zJ, hx0, litYard, litRamp, litCart, litEnd, v_eqS, kc, kl]); rw [hKn];clear hKn Kn;simp only [QV,reduceIte,reduceCtorEq,Nat.reduceEqDiff])
      ((repeat refine Ws ?_);refine Wf (by first|rfl|simp only [EV,zF,reduceIte]) ?_)
      ((repeat refine Ws ?_);refine W_regionE T_ok ?_; intro Kn hKn)
      ((simp (maxSteps := 1000000) only [VL,VM,↓VG,reduceIte,reduceCtorEq,zA,zB,zC,zD,zE,zF,zG,zH,zI,zJ, hx0, litYard, litRamp, litCart, litEnd, v_eqS, ke]); rw [hKn];clear hKn Kn;simp only [QV,reduceIte,reduceCtorEq,Nat.reduceEqDiff])
      ((repeat refine Ws ?_);refine Wf (by first|rfl|simp only [EV,zF,reduceIte]) ?_)
      ((repeat refine Ws ?_);refine W_regionE T_ok ?_; intro Kn hKn)
      simp (maxSteps := 1000000) only [VL,VM,↓VG,reduceIte,reduceCtorEq,zA,zB,zC,zD,zE,zF,zG,zH,zI,zJ]
      rw [hKn]
      exact ⟨rfl, rfl, .inr ⟨y, (L ++ [.clm xs.length 1]), hs0.trans (bad (fun h => hr h.1) (fun h => hl5 h.2) (fun h => he h.1)), rfl, ⟨rfl, rfl, rfl, trivial⟩⟩⟩
    have kc : (w = wCart) = False := eq_false hc
    ((repeat refine Ws ?_);refine W_regionE T_ok ?_; intro Kn hKn)
    ((simp (maxSteps := 1000000) only [VL,VM,↓VG,reduceIte,reduceCtorEq,zA,zB,zC,zD,zE,zF,zG,zH,zI,zJ, hx0, litYard, litRamp, litCart, litEnd, v_eqS, kc]); rw [hKn];clear hKn Kn;simp only [QV,reduceIte,reduceCtorEq,Nat.reduceEqDiff])
    ((repeat refine Ws ?_);refine Wf (by first|rfl|simp only [EV,zF,reduceIte]) ?_)
    by_cases he : w = wEnd
    ·have ke : (w = wEnd) = True := eq_true he
     by_cases hl1 : xs.length = 1
     ·obtain ⟨a, rfl⟩ := one hl1
      have kl : (((1 : Nat) : Int) = 1) = True := eq_true rfl
      ((repeat refine Ws ?_);refine W_regionE T_ok ?_; intro Kn hKn)
      ((simp (maxSteps := 1000000) only [VL,VM,↓VG,reduceIte,reduceCtorEq,zA,zB,zC,zD,zE,zF,zG,zH,zI,zJ, hx0, litYard, litRamp, litCart, litEnd, v_eqS, ke, kl]); rw [hKn];clear hKn Kn;simp only [QV,reduceIte,reduceCtorEq,Nat.reduceEqDiff])
      ((repeat refine Ws ?_);refine Wt (by first|rfl|simp only [EV,zF,reduceIte]) ?_)
      by_cases ha : a = (y.carts.length : Int)
      ·have ka : (a = (y.carts.length : Int)) = True := eq_true ha
       (repeat refine Ws ?_)
       refine W_drawE T_ok [] (by kernel_rfl) (by kernel_rfl) ?_
       intro Kn hKn
       generalize hi : mkPlan _ = infs
       cbv at hi
       subst hi
       simp (maxSteps := 1000000) only [VL,VM,↓VG,reduceIte,reduceCtorEq,zA,zB,zC,zD,zE,zF,zG,zH,zI,zJ, PM_at, PM_0, ka]
       rw [hKn]
       exact ⟨rfl, rfl, .inl ⟨y, true, L ++ [.clm 1 1], hs0.trans (by unfold rsPut; rw [if_neg hi0, if_neg (fun h => hr h.1), if_neg (fun h => hc h.1), if_pos ⟨he, rfl⟩]; exact if_pos ha), rfl, ⟨rfl, rfl, rfl, rfl, rfl, rfl, rfl, rfl, rfl, trivial⟩⟩⟩
      ·have ka : (a = (y.carts.length : Int)) = False := eq_false ha
       (repeat refine Ws ?_)
       refine W_drawE T_ok [] (by kernel_rfl) (by kernel_rfl) ?_
       intro Kn hKn
       generalize hi : mkPlan _ = infs
       cbv at hi
       subst hi
       simp (maxSteps := 1000000) only [VL,VM,↓VG,reduceIte,reduceCtorEq,zA,zB,zC,zD,zE,zF,zG,zH,zI,zJ, PM_at, PM_0, ka]
       rw [hKn]
       exact ⟨rfl, rfl, .inr ⟨y, (L ++ [.clm 1 1]), hs0.trans (by unfold rsPut; rw [if_neg hi0, if_neg (fun h => hr h.1), if_neg (fun h => hc h.1), if_pos ⟨he, rfl⟩]; exact if_neg ha), rfl, ⟨rfl, rfl, rfl, trivial⟩⟩⟩
     ·have kl : ((xs.length : Int) = 1) = False := eq_false (by omega)
      ((repeat refine Ws ?_);refine W_regionE T_ok ?_; intro Kn hKn)
      ((simp (maxSteps := 1000000) only [VL,VM,↓VG,reduceIte,reduceCtorEq,zA,zB,zC,zD,zE,zF,zG,zH,zI,zJ, hx0, litYard, litRamp, litCart, litEnd, v_eqS, ke, kl]); rw [hKn];clear hKn Kn;simp only [QV,reduceIte,reduceCtorEq,Nat.reduceEqDiff])
      ((repeat refine Ws ?_);refine Wf (by first|rfl|simp only [EV,zF,reduceIte]) ?_)
      ((repeat refine Ws ?_);refine W_regionE T_ok ?_; intro Kn hKn)
      simp (maxSteps := 1000000) only [VL,VM,↓VG,reduceIte,reduceCtorEq,zA,zB,zC,zD,zE,zF,zG,zH,zI,zJ]
      rw [hKn]
      exact ⟨rfl, rfl, .inr ⟨y, (L ++ [.clm xs.length 1]), hs0.trans (bad (fun h => hr h.1) (fun h => hc h.1) (fun h => hl1 h.2)), rfl, ⟨rfl, rfl, rfl, trivial⟩⟩⟩
    have ke : (w = wEnd) = False := eq_false he
    ((repeat refine Ws ?_);refine W_regionE T_ok ?_; intro Kn hKn)
    ((simp (maxSteps := 1000000) only [VL,VM,↓VG,reduceIte,reduceCtorEq,zA,zB,zC,zD,zE,zF,zG,zH,zI,zJ, hx0, litYard, litRamp, litCart, litEnd, v_eqS, ke]); rw [hKn];clear hKn Kn;simp only [QV,reduceIte,reduceCtorEq,Nat.reduceEqDiff])
    ((repeat refine Ws ?_);refine Wf (by first|rfl|simp only [EV,zF,reduceIte]) ?_)
    ((repeat refine Ws ?_);refine W_regionE T_ok ?_; intro Kn hKn)
    simp (maxSteps := 1000000) only [VL,VM,↓VG,reduceIte,reduceCtorEq,zA,zB,zC,zD,zE,zF,zG,zH,zI,zJ]
    rw [hKn]
    exact ⟨rfl, rfl, .inr ⟨y, (L ++ [.clm xs.length 1]), hs0.trans (bad (fun h => hr h.1) (fun h => hc h.1) (fun h => he h.1)), rfl, ⟨rfl, rfl, rfl, trivial⟩⟩⟩
  have k6 : ((k : Int) < (ws.length : Int)) = True := eq_true (by omega)
  have hwx := strs_at (List.getElem?_eq_getElem hkl)
  have hwlen := hwp ws[k] (List.getElem_mem hkl)
  have hstep := fun is' => @WdI.step is0 ws k xs is is' hW hkl
  have hfit := atoiV_fit ws[k]
  generalize ws[k] = wd at hwx hwlen hstep hfit
  ((simp (maxSteps := 1000000) only [VL,VM,↓VG,reduceIte,reduceCtorEq,zA,zB,zC,zD,zE,zF,zG,zH,zI,zJ, k6]); rw [hKn];clear hKn Kn;simp only [QV,reduceIte,reduceCtorEq,Nat.reduceEqDiff])
  ((repeat refine Ws ?_);refine Wt (by first|rfl|simp only [EV,zF,reduceIte]) ?_)
  (((repeat refine Ws ?_);refine W_skip ?_); simp only [QV,reduceIte,reduceCtorEq,Nat.reduceEqDiff])
  ((repeat refine Ws ?_);refine W_block ?_)
  ((repeat refine Ws ?_);refine W_regionE T_ok ?_; intro Kn hKn)
  ((simp (maxSteps := 1000000) only [VL,VM,↓VG,reduceIte,reduceCtorEq,zA,zB,zC,zD,zE,zF,zG,zH,zI,zJ, hwx]); rw [hKn];clear hKn Kn;simp only [QV,reduceIte,reduceCtorEq,Nat.reduceEqDiff])
  ((repeat refine Ws ?_);refine W_regionE T_ok ?_; intro Kn hKn)
  simp (maxSteps := 1000000) only [VL,VM,↓VG,reduceIte,reduceCtorEq,zA,zB,zC,zD,zE,zF,zG,zH,zI,zJ]
  apply call_eq (f := 37) (fn := Tryz.f37) (by kernel_rfl) (by rfl)
  ·exact atoi_v (s := wd) (by omega) _
  ((simp (maxSteps := 1000000) only [VL,VM,↓VG,reduceIte,reduceCtorEq,zA,zB,zC,zD,zE,zF,zG,zH,zI,zJ]); rw [hKn];clear hKn Kn;simp only [QV,reduceIte,reduceCtorEq,Nat.reduceEqDiff])
  ((repeat refine Ws ?_);refine W_regionE T_ok ?_; intro Kn hKn)
  have hK2 : ∀ e' is', (is' = true ↔ is = true ∧ (atoiV wd).2 = true ∧ 0 ≤ (atoiV wd).1 ∧ wd.length ≤ 7 ∧ Lib.itoa (atoiV wd).1 = wd) → Sub [(2, .ptr M.H.length 0), (5, strsW rows), (6, vi ((rows.length : Int) - 1)), (7, vb b), (8, vi i), (10, strsW ps), (12, .so (M.H.length + (3 + L.length)) 1 (xs.map intP)), (15, vi (atoiV wd).1), (29, strsW rs), (30, vi ((rows.length - 1 : Nat) : Int)), (31, vi i), (50, strsW ws), (51, vi ws.length), (52, vi k), (11, vb is')] e' → Kn e' ⟨PM M.H y (L ++ [.clm xs.length 1]), M.lg ++ [(M.H.length, M.H.length + 1), (M.H.length, M.H.length + 2)]⟩ := by
   intro e' is' his hsub
   rw [hKn]
   simp only [QV,reduceIte,reduceCtorEq,Nat.reduceEqDiff]
   clear hKn Kn
   obtain ⟨g2, g5, g6, g7, g8, g10, g12, g15, g29, g30, g31, g50, g51, g52, g11, -⟩ := hsub
   have q1 : ((xs.length + 1) * 8 ≤ 140737488355328) = True := eq_true (by omega)
   ((repeat refine Ws ?_);refine W_regionE T_ok ?_; intro Kn hKn)
   ((simp (maxSteps := 1000000) only [VL,VM,↓VG,reduceIte,reduceCtorEq,zA,zB,zC,zD,zE,zF,zG,zH,zI,zJ, g12, g15, PM_at, PM_sat, q1]); rw [hKn];clear hKn Kn;simp only [QV,reduceIte,reduceCtorEq,Nat.reduceEqDiff])
   ((repeat refine Ws ?_);refine W_regionE T_ok ?_; intro Kn hKn)
   ((simp (maxSteps := 1000000) only [VL,VM,↓VG,reduceIte,reduceCtorEq,zA,zB,zC,zD,zE,zF,zG,zH,zI,zJ, g52, kk]); rw [hKn];clear hKn Kn;simp only [QV,reduceIte,reduceCtorEq,Nat.reduceEqDiff])
   refine LoopK.mk (k + 1, xs ++ [(atoiV wd).1], is') (by simp only; omega) ⟨by simp only; omega, hstep is' his⟩ ?_ ?_
   ·refine ⟨?_, ?_, ?_, ?_, ?_, ?_, ?_, ?_, ?_, ?_, ?_, ?_, ?_, rfl, trivial⟩ <;> simp [get_cons, g2, g5, g6, g7, g8, g10, g29, g30, g31, g50, g51, g11]
   ·simp
  cases is with
  | false =>
   simp (maxSteps := 1000000) only [VL,VM,↓VG,reduceIte,reduceCtorEq,zA,zB,zC,zD,zE,zF,zG,zH,zI,zJ]
   exact hK2 _ false (by simp) ⟨rfl, rfl, rfl, rfl, rfl, rfl, rfl, rfl, rfl, rfl, rfl, rfl, rfl, rfl, rfl, trivial⟩
  | true =>
   cases ho : (atoiV wd).2 with
   | false =>
    simp (maxSteps := 1000000) only [VL,VM,↓VG,reduceIte,reduceCtorEq,zA,zB,zC,zD,zE,zF,zG,zH,zI,zJ, ho, v_eqNil]
    exact hK2 _ false (by simp [ho]) ⟨rfl, rfl, rfl, rfl, rfl, rfl, rfl, rfl, rfl, rfl, rfl, rfl, rfl, rfl, rfl, trivial⟩
   | true =>
    by_cases hx0 : 0 ≤ (atoiV wd).1
    rotate_left
    ·have n1 : (0 ≤ (atoiV wd).1) = False := eq_false hx0
     simp (maxSteps := 1000000) only [VL,VM,↓VG,reduceIte,reduceCtorEq,zA,zB,zC,zD,zE,zF,zG,zH,zI,zJ, ho, v_eqNil, n1]
     exact hK2 _ false (by simp [hx0]) ⟨rfl, rfl, rfl, rfl, rfl, rfl, rfl, rfl, rfl, rfl, rfl, rfl, rfl, rfl, rfl, trivial⟩
    have n1 : (0 ≤ (atoiV wd).1) = True := eq_true hx0
    by_cases h7 : wd.length ≤ 7
    rotate_left
    ·have n2 : ((wd.length : Int) ≤ 7) = False := eq_false (by omega)
     simp (maxSteps := 1000000) only [VL,VM,↓VG,reduceIte,reduceCtorEq,zA,zB,zC,zD,zE,zF,zG,zH,zI,zJ, ho, v_eqNil, n1, tx_size, n2]
     exact hK2 _ false (by simp [h7]) ⟨rfl, rfl, rfl, rfl, rfl, rfl, rfl, rfl, rfl, rfl, rfl, rfl, rfl, rfl, rfl, trivial⟩
    have n2 : ((wd.length : Int) ≤ 7) = True := eq_true (by omega)
    simp (maxSteps := 1000000) only [VL,VM,↓VG,reduceIte,reduceCtorEq,zA,zB,zC,zD,zE,zF,zG,zH,zI,zJ, ho, v_eqNil, n1, tx_size, n2]
    apply call_eq (f := 31) (fn := Tryz.f31) (by kernel_rfl) (by rfl)
    ·exact itoa_v hfit.1 hfit.2 _
    by_cases hit : Lib.itoa (atoiV wd).1 = wd
    ·have n3 : (Lib.itoa (atoiV wd).1 = wd) = True := eq_true hit
     simp (maxSteps := 1000000) only [VL,VM,↓VG,reduceIte,reduceCtorEq,zA,zB,zC,zD,zE,zF,zG,zH,zI,zJ, v_eqS, n3]
     exact hK2 _ true (by simp [ho, hx0, h7, hit]) ⟨rfl, rfl, rfl, rfl, rfl, rfl, rfl, rfl, rfl, rfl, rfl, rfl, rfl, rfl, rfl, trivial⟩
    ·have n3 : (Lib.itoa (atoiV wd).1 = wd) = False := eq_false hit
     simp (maxSteps := 1000000) only [VL,VM,↓VG,reduceIte,reduceCtorEq,zA,zB,zC,zD,zE,zF,zG,zH,zI,zJ, v_eqS, n3]
     exact hK2 _ false (by simp [hit]) ⟨rfl, rfl, rfl, rfl, rfl, rfl, rfl, rfl, rfl, rfl, rfl, rfl, rfl, rfl, rfl, trivial⟩
 cases b with
 | true =>
  simp (maxSteps := 1000000) only [VL,VM,↓VG,reduceIte,reduceCtorEq,zA,zB,zC,zD,zE,zF,zG,zH,zI,zJ]
  exact hK _ ⟨rfl, rfl, rfl, rfl, rfl, rfl, by rw [← hI0]; rfl, rfl, rfl, rfl, trivial⟩
 | false =>
  have e1 : ((i : Int) = 0) = (i = 0) := propext (by omega)
  simp (maxSteps := 1000000) only [VL,VM,↓VG,reduceIte,reduceCtorEq,zA,zB,zC,zD,zE,zF,zG,zH,zI,zJ, hx0, litYard, v_eqS, e1, eql_bool]
  exact hK _ ⟨rfl, rfl, rfl, rfl, rfl, rfl, by rw [← hI0]; rfl, rfl, rfl, rfl, trivial⟩
end Go.Proofs.YtmiiipdgbkipjaaGreatDoor.Vm
