/- A part of the proofs about the chapter of the vaults; it states no condition of its own. -/
import Derived.Test.YtominlgikchnmaaGreatDoorB21
import Derived.Test.YtominlgikchnmaaGreatDoorB30
import Derived.Test.YtominlgikchnmaaGreatDoorB36
set_option linter.unusedVariables false
set_option linter.unusedSimpArgs false
open Int renaming reduceLE → zA, reduceLT → zB, reduceToNat → zC, reduceNeg → zD
open Nat renaming reduceLT → zE, reduceEqDiff → zF, reduceAdd → zG, reduceSub → zH, reduceMul → zI, reduceLeDiff → zJ
/- The reference's Read, on values. (Vm) -/
namespace Go.Proofs.YtominlgikchnmaaGreatDoor.Vm
open Go Go.Proofs
theorem rparse2_v (s : By) (M : Mem) (hs : s.length ≤ 100000) : VC Tryz.prog 44 [vs s] M (fun r M' => M' = M ∧ r = .tup [vs (parW s), parL s, vb (parB s)]) := by
 have h := rparse_v s M hs
 have e : parseT 8 s = .tup [vs (parW s), parL s, vb (parB s)] := by
  unfold parseT parW parL parB
  cases parseR 8 s <;> rfl
 rw [e] at h
 exact h
structure RrS where
 i : Nat
 y : Ha
 b : Bool
 L : List VObj
set_option maxRecDepth 8000 in
set_option maxHeartbeats 8000000 in
theorem rread_v (s : By) (M : Mem) (hs : s.length ≤ 9223372036854775807) : VC Tryz.prog 13 [vs s] M (fun r M' => M' = M ∧ r = rsReadV (rsRead s)) := by
 refine VC_own' T_ok (f := 13) (fn := Tryz.f13) (by kernel_rfl) rfl Tryz.ntmps13 (by rfl) (by rfl) ?_
 ((repeat refine Ws ?_);refine W_regionE T_ok ?_; intro Kn hKn)
 ((simp (maxSteps := 1000000) only [VL,VM,↓VG,reduceIte,reduceCtorEq,zA,zB,zC,zD,zE,zF,zG,zH,zI,zJ]); rw [hKn];clear hKn Kn;simp only [QV,reduceIte,reduceCtorEq,Nat.reduceEqDiff])
 ((repeat refine Ws ?_);refine W_regionE T_ok ?_; intro Kn hKn)
 rcases Nat.lt_or_ge 2500 s.length with h15 | h15
 ·have k1 : ((2500 : Int) < (s.length : Int)) = True := eq_true (by omega)
  ((simp (maxSteps := 1000000) only [VL,VM,↓VG,reduceIte,reduceCtorEq,zA,zB,zC,zD,zE,zF,zG,zH,zI,zJ, tx_size, k1]); rw [hKn];clear hKn Kn;simp only [QV,reduceIte,reduceCtorEq,Nat.reduceEqDiff])
  ((repeat refine Ws ?_);refine Wt (by first|rfl|simp only [EV,zF,reduceIte]) ?_)
  ((repeat refine Ws ?_);refine W_regionE T_ok ?_; intro Kn hKn)
  ((simp (maxSteps := 1000000) only [VL,VM,↓VG,reduceIte,reduceCtorEq,zA,zB,zC,zD,zE,zF,zG,zH,zI,zJ]); rw [hKn];clear hKn Kn;simp only [QV,reduceIte,reduceCtorEq,Nat.reduceEqDiff])
  rw [show rsRead s = (y0, 0, 10) by unfold rsRead; rw [if_pos h15]]
  refine W_nil4 ?_
  refine W_eqM (M' := ⟨M.H ++ [.obj (hallC y0)], M.lg ++ []⟩) (by simp) ?_
  (repeat refine Ws ?_)
  refine W_ret ?_
  try simp only [thenQ, blockQ]
  refine own_retR rfl (by simp) rfl rfl rfl rfl
 have k1 : ((2500 : Int) < (s.length : Int)) = False := eq_false (by omega)
 ((simp (maxSteps := 1000000) only [VL,VM,↓VG,reduceIte,reduceCtorEq,zA,zB,zC,zD,zE,zF,zG,zH,zI,zJ, tx_size, k1]); rw [hKn];clear hKn Kn;simp only [QV,reduceIte,reduceCtorEq,Nat.reduceEqDiff])
 ((repeat refine Ws ?_);refine Wf (by first|rfl|simp only [EV,zF,reduceIte]) ?_)
 (((repeat refine Ws ?_);refine W_skip ?_); simp only [QV,reduceIte,reduceCtorEq,Nat.reduceEqDiff])
 have hlen := cutL_len 10 s
 have hpos := cutL_pos 10 s
 have hpart := cutL_part 10 s
 ((repeat refine Ws ?_);refine W_regionE T_ok ?_; intro Kn hKn)
 simp (maxSteps := 1000000) only [VL,VM,↓VG,reduceIte,reduceCtorEq,zA,zB,zC,zD,zE,zF,zG,zH,zI,zJ]
 apply call_eq (f := 43) (fn := Tryz.f43) (by kernel_rfl) (by rfl)
 ·exact rsplit_v 10 s _ (by omega)
 ((simp (maxSteps := 1000000) only [VL,VM,↓VG,reduceIte,reduceCtorEq,zA,zB,zC,zD,zE,zF,zG,zH,zI,zJ]); rw [hKn];clear hKn Kn;simp only [QV,reduceIte,reduceCtorEq,Nat.reduceEqDiff])
 have hread : rsRead s = match rsRun 0 (y0, false) ((cutL 10 s).take ((cutL 10 s).length - 1)) with
  | .inl i => (y0, (i : Int) + 1, 2)
  | .inr st => rsEnd (cutL 10 s) st := by
  unfold rsRead
  rw [if_neg (by omega)]
  rfl
 generalize cutL 10 s = rows at hlen hpos hpart hread ⊢
 ((repeat refine Ws ?_);refine W_regionE T_ok ?_; intro Kn hKn)
 ((simp (maxSteps := 1000000) only [VL,VM,↓VG,reduceIte,reduceCtorEq,zA,zB,zC,zD,zE,zF,zG,zH,zI,zJ]); rw [hKn];clear hKn Kn;simp only [QV,reduceIte,reduceCtorEq,Nat.reduceEqDiff])
 (repeat refine Ws ?_)
 obtain ⟨H1, hH1⟩ : ∃ H1, H1 = M.H ++ [VObj.obj z0] := ⟨_, rfl⟩
 have hn : M.H.length + 1 = H1.length := by rw [hH1]; simp
 have hX : ∀ e ∈ LG4 H1.length, M.H.length ≤ e.1 := fun e he => by
  simp only [List.mem_cons, List.not_mem_nil, or_false] at he
  rcases he with rfl | rfl | rfl | rfl <;> (simp only; omega)
 have gz : ∀ cs a b c d L, (PMc H1 cs a b c d L)[M.H.length]? = some (.obj z0) := fun cs a b c d L => by unfold PMc; rw [hH1]; simp
 have sz : ∀ cs a b c d L o, (PMc H1 cs a b c d L).set M.H.length o = M.H ++ o :: .obj cs :: .clm a 2 :: .clm b 2 :: .clm c 1 :: .clm d 6 :: L := fun cs a b c d L o => by unfold PMc; rw [hH1]; simp
 rw [hn]
 refine W_eqM (M' := ⟨H1 ++ [.obj z0], M.lg⟩) (by rw [hH1]; simp) ?_
 refine W_ghost4 ?_
 ((repeat refine Ws ?_);refine W_regionE T_ok ?_; intro Kn hKn)
 ((simp (maxSteps := 1000000) only [VL,VM,↓VG,reduceIte,reduceCtorEq,zA,zB,zC,zD,zE,zF,zG,zH,zI,zJ]); rw [hKn];clear hKn Kn;simp only [QV,reduceIte,reduceCtorEq,Nat.reduceEqDiff])
 ((repeat refine Ws ?_);refine W_regionE T_ok ?_; intro Kn hKn)
 ((simp (maxSteps := 1000000) only [VL,VM,↓VG,reduceIte,reduceCtorEq,zA,zB,zC,zD,zE,zF,zG,zH,zI,zJ]); rw [hKn];clear hKn Kn;simp only [QV,reduceIte,reduceCtorEq,Nat.reduceEqDiff])
 ((repeat refine Ws ?_);refine W_block ?_; (repeat refine Ws ?_)); refine W_loopS (fun z : RrS => [(2, .ptr M.H.length 0), (5, strsW rows), (6, .ptr H1.length 0), (7, vb z.b), (8, vi z.i)]) (fun z => ⟨PM H1 z.y z.L, M.lg ++ LG4 H1.length⟩) (fun z => rows.length - z.i) (fun z => z.i ≤ rows.length - 1 ∧ rsRun 0 (y0, false) (rows.take z.i) = .inr (z.y, z.b) ∧ RsOk z.i z.y) ⟨0, y0, false, []⟩ ⟨Nat.zero_le _, rfl, ⟨Nat.le_refl _, Nat.le_refl _, Nat.le_refl _, Nat.le_refl _, by simp [y0]⟩⟩ ⟨rfl, rfl, rfl, rfl, rfl, trivial⟩ rfl ?_
 rintro ⟨i, y, b, L⟩ ⟨hi, hrun, hok⟩
 simp only at hi hrun hok
 have k2 : -9223372036854775808 ≤ (rows.length : Int) - 1 ∧ (rows.length : Int) - 1 < 9223372036854775808 := by omega
 have k3 : -9223372036854775808 ≤ (i : Int) + 1 ∧ (i : Int) + 1 < 9223372036854775808 := by omega
 rcases Nat.lt_or_ge i (rows.length - 1) with hlt | hge
 rotate_left
 ·obtain rfl : i = rows.length - 1 := by omega
  have hres0 : rsRead s = rsEnd rows (y, b) := by rw [hread, hrun]
  have k4 : (((rows.length - 1 : Nat) : Int) < (rows.length : Int) - 1) = False := eq_false (by omega)
  have hlt2 : rows.length - 1 < rows.length := by omega
  have hx := strs_at (List.getElem?_eq_getElem hlt2)
  have hidx : ((rows.length : Int) - 1).toNat = rows.length - 1 := by omega
  have hge0 : (0 ≤ (rows.length : Int) - 1) = True := eq_true (by omega)
  have hlast : rows.getD (rows.length - 1) [] = rows[rows.length - 1] := by rw [List.getD_eq_getElem?_getD, List.getElem?_eq_getElem hlt2]; rfl
  generalize rows[rows.length - 1] = last at hx hlast
  ((repeat refine Ws ?_);refine W_regionE T_ok ?_; intro Kn hKn)
  ((simp (maxSteps := 1000000) only [VL,VM,↓VG,reduceIte,reduceCtorEq,zA,zB,zC,zD,zE,zF,zG,zH,zI,zJ, strs_len, k2, k4]); rw [hKn];clear hKn Kn;simp only [QV,reduceIte,reduceCtorEq,Nat.reduceEqDiff])
  ((repeat refine Ws ?_);refine Wf (by first|rfl|simp only [EV,zF,reduceIte]) ?_)
  (((repeat refine Ws ?_);refine W_exit ?_); simp only [QV,reduceIte,reduceCtorEq,Nat.reduceEqDiff])
  ((repeat refine Ws ?_);refine W_regionE T_ok ?_; intro Kn hKn)
  cases b with
  | false =>
   have hres : rsRead s = (y0, (rows.length : Int), 2) := by
    rw [hres0]
    unfold rsEnd
    rw [if_pos (.inl rfl)]
   ((simp (maxSteps := 1000000) only [VL,VM,↓VG,reduceIte,reduceCtorEq,zA,zB,zC,zD,zE,zF,zG,zH,zI,zJ]); rw [hKn];clear hKn Kn;simp only [QV,reduceIte,reduceCtorEq,Nat.reduceEqDiff])
   ((repeat refine Ws ?_);refine Wt (by first|rfl|simp only [EV,zF,reduceIte]) ?_)
   ((repeat refine Ws ?_);refine W_regionE T_ok ?_; intro Kn hKn)
   ((simp (maxSteps := 1000000) only [VL,VM,↓VG,reduceIte,reduceCtorEq,zA,zB,zC,zD,zE,zF,zG,zH,zI,zJ, strs_len, gz, sz]); rw [hKn];clear hKn Kn;simp only [QV,reduceIte,reduceCtorEq,Nat.reduceEqDiff])
   rw [hres]
   refine W_nil4 ?_
   (repeat refine Ws ?_)
   refine W_ret ?_
   try simp only [thenQ, blockQ]
   refine own_retR rfl hX rfl rfl rfl rfl
  | true =>
   by_cases hl : last = []
   rotate_left
   ·have k5 : (last = []) = False := eq_false hl
    have hres : rsRead s = (y0, (rows.length : Int), 2) := by
     rw [hres0]
     unfold rsEnd
     rw [if_pos (.inr (by rw [hlast]; exact hl))]
    ((simp (maxSteps := 1000000) only [VL,VM,↓VG,reduceIte,reduceCtorEq,zA,zB,zC,zD,zE,zF,zG,zH,zI,zJ, strs_len, k2, hidx, hge0, hx, litNil, v_neS, k5]); rw [hKn];clear hKn Kn;simp only [QV,reduceIte,reduceCtorEq,Nat.reduceEqDiff])
    ((repeat refine Ws ?_);refine Wt (by first|rfl|simp only [EV,zF,reduceIte]) ?_)
    ((repeat refine Ws ?_);refine W_regionE T_ok ?_; intro Kn hKn)
    ((simp (maxSteps := 1000000) only [VL,VM,↓VG,reduceIte,reduceCtorEq,zA,zB,zC,zD,zE,zF,zG,zH,zI,zJ, strs_len, gz, sz]); rw [hKn];clear hKn Kn;simp only [QV,reduceIte,reduceCtorEq,Nat.reduceEqDiff])
    rw [hres]
    refine W_nil4 ?_
    (repeat refine Ws ?_)
    refine W_ret ?_
    try simp only [thenQ, blockQ]
    refine own_retR rfl hX rfl rfl rfl rfl
   have k5 : (last = []) = True := eq_true hl
   ((simp (maxSteps := 1000000) only [VL,VM,↓VG,reduceIte,reduceCtorEq,zA,zB,zC,zD,zE,zF,zG,zH,zI,zJ, strs_len, k2, hidx, hge0, hx, litNil, v_neS, k5]); rw [hKn];clear hKn Kn;simp only [QV,reduceIte,reduceCtorEq,Nat.reduceEqDiff])
   ((repeat refine Ws ?_);refine Wf (by first|rfl|simp only [EV,zF,reduceIte]) ?_)
   (((repeat refine Ws ?_);refine W_skip ?_); simp only [QV,reduceIte,reduceCtorEq,Nat.reduceEqDiff])
   have F : Fin y := ⟨by have := hok.w; omega, by have := hok.s; omega, by have := hok.b; omega, by have := hok.c; omega, fun k hk => by have := hok.l k hk; omega⟩
   ((repeat refine Ws ?_);refine W_regionE T_ok ?_; intro Kn hKn)
   simp (maxSteps := 1000000) only [VL,VM,↓VG,reduceIte,reduceCtorEq,zA,zB,zC,zD,zE,zF,zG,zH,zI,zJ, PM_0]
   apply call_eq (f := 37) (fn := Tryz.f37) (by kernel_rfl) (by rfl)
   ·exact check_v y _ F
   ((simp (maxSteps := 1000000) only [VL,VM,↓VG,reduceIte,reduceCtorEq,zA,zB,zC,zD,zE,zF,zG,zH,zI,zJ]); rw [hKn];clear hKn Kn;simp only [QV,reduceIte,reduceCtorEq,Nat.reduceEqDiff])
   ((repeat refine Ws ?_);refine W_regionE T_ok ?_; intro Kn hKn)
   by_cases h1 : hallErr y = 0
   ·have k6 : (hallErr y = 0) = True := eq_true h1
    have hres : rsRead s = (y, 0, 0) := by
     rw [hres0]
     unfold rsEnd
     rw [if_neg, if_pos h1]
     rintro (h | h)
     ·cases h
     ·rw [hlast] at h
      exact h hl
    ((simp (maxSteps := 1000000) only [VL,VM,↓VG,reduceIte,reduceCtorEq,zA,zB,zC,zD,zE,zF,zG,zH,zI,zJ, k6]); rw [hKn];clear hKn Kn;simp only [QV,reduceIte,reduceCtorEq,Nat.reduceEqDiff])
    ((repeat refine Ws ?_);refine Wf (by first|rfl|simp only [EV,zF,reduceIte]) ?_)
    (((repeat refine Ws ?_);refine W_skip ?_); simp only [QV,reduceIte,reduceCtorEq,Nat.reduceEqDiff])
    ((repeat refine Ws ?_);refine W_regionE T_ok ?_; intro Kn hKn)
    ((simp (maxSteps := 1000000) only [VL,VM,↓VG,reduceIte,reduceCtorEq,zA,zB,zC,zD,zE,zF,zG,zH,zI,zJ, PM_0, gz, sz]); rw [hKn];clear hKn Kn;simp only [QV,reduceIte,reduceCtorEq,Nat.reduceEqDiff])
    rw [hres]
    (repeat refine Ws ?_)
    refine W_ret ?_
    try simp only [thenQ, blockQ]
    refine own_retR rfl hX rfl rfl rfl rfl
   ·have k6 : (hallErr y = 0) = False := eq_false h1
    have hres : rsRead s = (y0, 0, hallErr y) := by
     rw [hres0]
     unfold rsEnd
     rw [if_neg, if_neg h1]
     rintro (h | h)
     ·cases h
     ·rw [hlast] at h
      exact h hl
    ((simp (maxSteps := 1000000) only [VL,VM,↓VG,reduceIte,reduceCtorEq,zA,zB,zC,zD,zE,zF,zG,zH,zI,zJ, k6]); rw [hKn];clear hKn Kn;simp only [QV,reduceIte,reduceCtorEq,Nat.reduceEqDiff])
    ((repeat refine Ws ?_);refine Wt (by first|rfl|simp only [EV,zF,reduceIte]) ?_)
    ((repeat refine Ws ?_);refine W_regionE T_ok ?_; intro Kn hKn)
    ((simp (maxSteps := 1000000) only [VL,VM,↓VG,reduceIte,reduceCtorEq,zA,zB,zC,zD,zE,zF,zG,zH,zI,zJ, gz, sz]); rw [hKn];clear hKn Kn;simp only [QV,reduceIte,reduceCtorEq,Nat.reduceEqDiff])
    rw [hres]
    refine W_nil4 ?_
    (repeat refine Ws ?_)
    refine W_ret ?_
    try simp only [thenQ, blockQ]
    refine own_retR rfl hX rfl rfl rfl rfl
 have hlt2 : i < rows.length := by omega
 have k4 : ((i : Int) < (rows.length : Int) - 1) = True := eq_true (by omega)
 have hx := strs_at (List.getElem?_eq_getElem hlt2)
 have hp := hpart rows[i] (List.getElem_mem hlt2)
 have hst := rsRun_step hlt2 hrun
 generalize rows[i] = row at hx hp hst
 ((repeat refine Ws ?_);refine W_regionE T_ok ?_; intro Kn hKn)
 ((simp (maxSteps := 1000000) only [VL,VM,↓VG,reduceIte,reduceCtorEq,zA,zB,zC,zD,zE,zF,zG,zH,zI,zJ, strs_len, k2, k4]); rw [hKn];clear hKn Kn;simp only [QV,reduceIte,reduceCtorEq,Nat.reduceEqDiff])
 ((repeat refine Ws ?_);refine Wt (by first|rfl|simp only [EV,zF,reduceIte]) ?_)
 (((repeat refine Ws ?_);refine W_skip ?_); simp only [QV,reduceIte,reduceCtorEq,Nat.reduceEqDiff])
 ((repeat refine Ws ?_);refine W_block ?_)
 ((repeat refine Ws ?_);refine W_regionE T_ok ?_; intro Kn hKn)
 simp (maxSteps := 1000000) only [VL,VM,↓VG,reduceIte,reduceCtorEq,zA,zB,zC,zD,zE,zF,zG,zH,zI,zJ, hx]
 apply call_eq (f := 44) (fn := Tryz.f44) (by kernel_rfl) (by rfl)
 ·exact rparse2_v row _ (by omega)
 ((simp (maxSteps := 1000000) only [VL,VM,↓VG,reduceIte,reduceCtorEq,zA,zB,zC,zD,zE,zF,zG,zH,zI,zJ]); rw [hKn];clear hKn Kn;simp only [QV,reduceIte,reduceCtorEq,Nat.reduceEqDiff])
 (repeat refine Ws ?_)
 refine W_blockN (R := fun e' M' => (∃ y' b' L', rsStep i (y, b) row = some (y', b') ∧ M' = ⟨PM H1 y' L', M.lg ++ LG4 H1.length⟩ ∧ Sub [(2, .ptr M.H.length 0), (5, strsW rows), (6, .ptr H1.length 0), (7, vb b'), (8, vi i), (11, vb true)] e') ∨
  (∃ y' L', rsStep i (y, b) row = none ∧ M' = ⟨PM H1 y' L', M.lg ++ LG4 H1.length⟩ ∧ Sub [(2, .ptr M.H.length 0), (8, vi i), (11, vb false)] e')) ?_ ?_
 rotate_left
 ·rintro e' M' (⟨y', b', L', hs1, rfl, g2, g5, g6, g7, g8, g11, -⟩ | ⟨y', L', hs1, rfl, g2, g8, g11, -⟩)
  ·rw [hs1] at hst
   simp only [QV,reduceIte,reduceCtorEq,Nat.reduceEqDiff]
   ((repeat refine Ws ?_);refine W_regionE T_ok ?_; intro Kn hKn)
   ((simp (maxSteps := 1000000) only [VL,VM,↓VG,reduceIte,reduceCtorEq,zA,zB,zC,zD,zE,zF,zG,zH,zI,zJ, g11]); rw [hKn];clear hKn Kn;simp only [QV,reduceIte,reduceCtorEq,Nat.reduceEqDiff])
   ((repeat refine Ws ?_);refine Wf (by first|rfl|simp only [EV,zF,reduceIte]) ?_)
   (((repeat refine Ws ?_);refine W_skip ?_); simp only [QV,reduceIte,reduceCtorEq,Nat.reduceEqDiff])
   ((repeat refine Ws ?_);refine W_regionE T_ok ?_; intro Kn hKn)
   ((simp (maxSteps := 1000000) only [VL,VM,↓VG,reduceIte,reduceCtorEq,zA,zB,zC,zD,zE,zF,zG,zH,zI,zJ, g8, k3]); rw [hKn];clear hKn Kn;simp only [QV,reduceIte,reduceCtorEq,Nat.reduceEqDiff])
   refine LoopK.mk ⟨i + 1, y', b', L'⟩ (by simp only; omega) ⟨by simp only; omega, hst, rsStep_ok hs1 hok (by omega)⟩ ⟨?_, ?_, ?_, ?_, ?_, trivial⟩ rfl
   all_goals simp [get_cons, g2, g5, g6, g7]
  ·rw [hs1] at hst
   have hbad := rsRun_bad (n := rows.length - 1) (by omega) hst
   have hres : rsRead s = (y0, (i : Int) + 1, 2) := by rw [hread, hbad]
   simp only [QV,reduceIte,reduceCtorEq,Nat.reduceEqDiff]
   ((repeat refine Ws ?_);refine W_regionE T_ok ?_; intro Kn hKn)
   ((simp (maxSteps := 1000000) only [VL,VM,↓VG,reduceIte,reduceCtorEq,zA,zB,zC,zD,zE,zF,zG,zH,zI,zJ, g11]); rw [hKn];clear hKn Kn;simp only [QV,reduceIte,reduceCtorEq,Nat.reduceEqDiff])
   ((repeat refine Ws ?_);refine Wt (by first|rfl|simp only [EV,zF,reduceIte]) ?_)
   ((repeat refine Ws ?_);refine W_regionE T_ok ?_; intro Kn hKn)
   ((simp (maxSteps := 1000000) only [VL,VM,↓VG,reduceIte,reduceCtorEq,zA,zB,zC,zD,zE,zF,zG,zH,zI,zJ, g8, k3, g2, gz, sz]); rw [hKn];clear hKn Kn;simp only [QV,reduceIte,reduceCtorEq,Nat.reduceEqDiff])
   rw [hres]
   refine W_nil4 ?_
   (repeat refine Ws ?_)
   refine W_ret ?_
   try simp only [thenQ, blockQ]
   refine own_retR rfl hX rfl ?_ rfl rfl
   simp [get_cons, g2]
 cases hpr : parseR 8 row with
 | none =>
  have hs0 : rsStep i (y, b) row = none := by unfold rsStep; rw [hpr]
  have ew : parB row = false := by unfold parB; rw [hpr]
  ((repeat refine Ws ?_);refine W_regionE T_ok ?_; intro Kn hKn)
  ((simp (maxSteps := 1000000) only [VL,VM,↓VG,reduceIte,reduceCtorEq,zA,zB,zC,zD,zE,zF,zG,zH,zI,zJ, ew]); rw [hKn];clear hKn Kn;simp only [QV,reduceIte,reduceCtorEq,Nat.reduceEqDiff])
  ((repeat refine Ws ?_);refine Wt (by first|rfl|simp only [EV,zF,reduceIte]) ?_)
  ((repeat refine Ws ?_);refine W_regionE T_ok ?_; intro Kn hKn)
  simp (maxSteps := 1000000) only [VL,VM,↓VG,reduceIte,reduceCtorEq,zA,zB,zC,zD,zE,zF,zG,zH,zI,zJ]
  rw [hKn]
  exact ⟨rfl, rfl, .inr ⟨y, L, hs0, rfl, ⟨rfl, rfl, rfl, trivial⟩⟩⟩
 | some wl =>
 obtain ⟨w, l⟩ := wl
 have e1 : parB row = true := by unfold parB; rw [hpr]
 have e2 : parW row = w := by unfold parW; rw [hpr]
 have e3 : parL row = intsV l := by unfold parL; rw [hpr]
 have hll := parseR_len hpr
 have hs0 : rsStep i (y, b) row = if b = true then none else rsPut i y w l := by unfold rsStep; rw [hpr]
 rw [e1, e2, e3]
 cases b with
 | true =>
  ((repeat refine Ws ?_);refine W_regionE T_ok ?_; intro Kn hKn)
  ((simp (maxSteps := 1000000) only [VL,VM,↓VG,reduceIte,reduceCtorEq,zA,zB,zC,zD,zE,zF,zG,zH,zI,zJ]); rw [hKn];clear hKn Kn;simp only [QV,reduceIte,reduceCtorEq,Nat.reduceEqDiff])
  ((repeat refine Ws ?_);refine Wt (by first|rfl|simp only [EV,zF,reduceIte]) ?_)
  ((repeat refine Ws ?_);refine W_regionE T_ok ?_; intro Kn hKn)
  simp (maxSteps := 1000000) only [VL,VM,↓VG,reduceIte,reduceCtorEq,zA,zB,zC,zD,zE,zF,zG,zH,zI,zJ]
  rw [hKn]
  exact ⟨rfl, rfl, .inr ⟨y, L, hs0, rfl, ⟨rfl, rfl, rfl, trivial⟩⟩⟩
 | false =>
 rw [if_neg (by simp)] at hs0
 ((repeat refine Ws ?_);refine W_regionE T_ok ?_; intro Kn hKn)
 ((simp (maxSteps := 1000000) only [VL,VM,↓VG,reduceIte,reduceCtorEq,zA,zB,zC,zD,zE,zF,zG,zH,zI,zJ]); rw [hKn];clear hKn Kn;simp only [QV,reduceIte,reduceCtorEq,Nat.reduceEqDiff])
 ((repeat refine Ws ?_);refine Wf (by first|rfl|simp only [EV,zF,reduceIte]) ?_)
 by_cases hi0 : i = 0
 ·have ki : ((i : Int) = 0) = True := eq_true (by omega)
  ((repeat refine Ws ?_);refine W_regionE T_ok ?_; intro Kn hKn)
  ((simp (maxSteps := 1000000) only [VL,VM,↓VG,reduceIte,reduceCtorEq,zA,zB,zC,zD,zE,zF,zG,zH,zI,zJ, ki]); rw [hKn];clear hKn Kn;simp only [QV,reduceIte,reduceCtorEq,Nat.reduceEqDiff])
  ((repeat refine Ws ?_);refine Wt (by first|rfl|simp only [EV,zF,reduceIte]) ?_)
  by_cases hh : w = wHall
  ·have kh : (w = wHall) = True := eq_true hh
   by_cases hl4 : l.length = 4
   ·have kl : ((l.length : Int) = 4) = True := eq_true (by omega)
    ((repeat refine Ws ?_);refine W_regionE T_ok ?_; intro Kn hKn)
    ((simp (maxSteps := 1000000) only [VL,VM,↓VG,reduceIte,reduceCtorEq,zA,zB,zC,zD,zE,zF,zG,zH,zI,zJ, litHall, v_eqS, kh, kl]); rw [hKn];clear hKn Kn;simp only [QV,reduceIte,reduceCtorEq,Nat.reduceEqDiff])
    ((repeat refine Ws ?_);refine W_regionE T_ok ?_; intro Kn hKn)
    ((simp (maxSteps := 1000000) only [VL,VM,↓VG,reduceIte,reduceCtorEq,zA,zB,zC,zD,zE,zF,zG,zH,zI,zJ]); rw [hKn];clear hKn Kn;simp only [QV,reduceIte,reduceCtorEq,Nat.reduceEqDiff])
    ((repeat refine Ws ?_);refine Wt (by first|rfl|simp only [EV,zF,reduceIte]) ?_)
    obtain ⟨a, b, c, d, rfl⟩ := four hl4
    (repeat refine Ws ?_)
    refine W_drawE T_ok [] (by kernel_rfl) (by kernel_rfl) ?_
    intro Kn hKn
    generalize hi : mkPlan _ = infs
    cbv at hi
    subst hi
    simp (maxSteps := 1000000) only [VL,VM,↓VG,reduceIte,reduceCtorEq,zA,zB,zC,zD,zE,zF,zG,zH,zI,zJ, PM_at, PM_0, PM_s0]
    rw [hKn]
    exact ⟨rfl, rfl, .inl ⟨haOf y [a, b, c, d], false, L, hs0.trans (by unfold rsPut; rw [if_pos hi0, if_pos ⟨hh, rfl⟩]), rfl, ⟨rfl, rfl, rfl, rfl, rfl, rfl, trivial⟩⟩⟩
   ·have kl : ((l.length : Int) = 4) = False := eq_false (by omega)
    ((repeat refine Ws ?_);refine W_regionE T_ok ?_; intro Kn hKn)
    ((simp (maxSteps := 1000000) only [VL,VM,↓VG,reduceIte,reduceCtorEq,zA,zB,zC,zD,zE,zF,zG,zH,zI,zJ, litHall, v_eqS, kh, kl]); rw [hKn];clear hKn Kn;simp only [QV,reduceIte,reduceCtorEq,Nat.reduceEqDiff])
    ((repeat refine Ws ?_);refine W_regionE T_ok ?_; intro Kn hKn)
    ((simp (maxSteps := 1000000) only [VL,VM,↓VG,reduceIte,reduceCtorEq,zA,zB,zC,zD,zE,zF,zG,zH,zI,zJ]); rw [hKn];clear hKn Kn;simp only [QV,reduceIte,reduceCtorEq,Nat.reduceEqDiff])
    ((repeat refine Ws ?_);refine Wf (by first|rfl|simp only [EV,zF,reduceIte]) ?_)
    ((repeat refine Ws ?_);refine W_skip ?_)
    exact ⟨rfl, rfl, .inr ⟨y, L, hs0.trans (by unfold rsPut; rw [if_pos hi0, if_neg (fun e => hl4 e.2)]), rfl, ⟨rfl, rfl, rfl, trivial⟩⟩⟩
  ·have kh : (w = wHall) = False := eq_false hh
   ((repeat refine Ws ?_);refine W_regionE T_ok ?_; intro Kn hKn)
   ((simp (maxSteps := 1000000) only [VL,VM,↓VG,reduceIte,reduceCtorEq,zA,zB,zC,zD,zE,zF,zG,zH,zI,zJ, litHall, v_eqS, kh]); rw [hKn];clear hKn Kn;simp only [QV,reduceIte,reduceCtorEq,Nat.reduceEqDiff])
   ((repeat refine Ws ?_);refine W_regionE T_ok ?_; intro Kn hKn)
   ((simp (maxSteps := 1000000) only [VL,VM,↓VG,reduceIte,reduceCtorEq,zA,zB,zC,zD,zE,zF,zG,zH,zI,zJ]); rw [hKn];clear hKn Kn;simp only [QV,reduceIte,reduceCtorEq,Nat.reduceEqDiff])
   ((repeat refine Ws ?_);refine Wf (by first|rfl|simp only [EV,zF,reduceIte]) ?_)
   ((repeat refine Ws ?_);refine W_skip ?_)
   exact ⟨rfl, rfl, .inr ⟨y, L, hs0.trans (by unfold rsPut; rw [if_pos hi0, if_neg (fun e => hh e.1)]), rfl, ⟨rfl, rfl, rfl, trivial⟩⟩⟩
 have ki : ((i : Int) = 0) = False := eq_false (by omega)
 ((repeat refine Ws ?_);refine W_regionE T_ok ?_; intro Kn hKn)
 ((simp (maxSteps := 1000000) only [VL,VM,↓VG,reduceIte,reduceCtorEq,zA,zB,zC,zD,zE,zF,zG,zH,zI,zJ, ki]); rw [hKn];clear hKn Kn;simp only [QV,reduceIte,reduceCtorEq,Nat.reduceEqDiff])
 ((repeat refine Ws ?_);refine Wf (by first|rfl|simp only [EV,zF,reduceIte]) ?_)
 have o1 := hok.w
 have o2 := hok.s
 have o3 := hok.b
 have o4 := hok.c
 have r1 : -9223372036854775808 ≤ (y.shut.length : Int) + (y.bears.length : Int) ∧ (y.shut.length : Int) + (y.bears.length : Int) < 9223372036854775808 := by omega
 have r2 : -9223372036854775808 ≤ (y.shut.length : Int) + (y.bears.length : Int) + (y.kinds.length : Int) ∧ (y.shut.length : Int) + (y.bears.length : Int) + (y.kinds.length : Int) < 9223372036854775808 := by omega
 have r3 : -9223372036854775808 ≤ (y.bears.length : Int) + (y.kinds.length : Int) ∧ (y.bears.length : Int) + (y.kinds.length : Int) < 9223372036854775808 := by omega
 have a1 : addLg H1.length [H1.length + 1] (M.lg ++ LG4 H1.length) = M.lg ++ LG4 H1.length := addLg_in (by simp)
 have a2 : addLg H1.length [H1.length + 2] (M.lg ++ LG4 H1.length) = M.lg ++ LG4 H1.length := addLg_in (by simp)
 have a3 : addLg H1.length [H1.length + 3] (M.lg ++ LG4 H1.length) = M.lg ++ LG4 H1.length := addLg_in (by simp)
 have a4 : addLg H1.length [H1.length + 4] (M.lg ++ LG4 H1.length) = M.lg ++ LG4 H1.length := addLg_in (by simp)
 have bad : ¬ (w = wWater ∧ l.length = 2 ∧ y.shut.length + y.bears.length + y.kinds.length = 0) → ¬ (w = wShut ∧ l.length = 2 ∧ y.bears.length + y.kinds.length = 0) → ¬ (w = wBears ∧ l.length = 1 ∧ y.kinds.length = 0) → ¬ (w = wKind ∧ 5 ≤ l.length ∧ l.getD 2 0 < 2) → ¬ (w = wEnd ∧ l.length = 1) → rsPut i y w l = none := fun h1 h2 h3 h4 h5 => by
  unfold rsPut
  rw [if_neg hi0, if_neg h1, if_neg h2, if_neg h3, if_neg h4, if_neg h5]
 by_cases h0 : w = wWater
 ·have k0 : (w = wWater) = True := eq_true h0
  have k1 : (w = wShut) = False := eq_false (by rw [h0]; decide)
  have k2 : (w = wBears) = False := eq_false (by rw [h0]; decide)
  have k3 : (w = wKind) = False := eq_false (by rw [h0]; decide)
  have k4 : (w = wEnd) = False := eq_false (by rw [h0]; decide)
  by_cases hl2 : l.length = 2
  rotate_left
  ·have kl : ((l.length : Int) = 2) = False := eq_false (by omega)
   ((repeat refine Ws ?_);refine W_regionE T_ok ?_; intro Kn hKn)
   ((simp (maxSteps := 1000000) only [VL,VM,↓VG,reduceIte,reduceCtorEq,zA,zB,zC,zD,zE,zF,zG,zH,zI,zJ, litWater, litShut, litBears, litKind, litEnd, v_eqS, k0, kl]); rw [hKn];clear hKn Kn;simp only [QV,reduceIte,reduceCtorEq,Nat.reduceEqDiff])
   ((repeat refine Ws ?_);refine Wf (by first|rfl|simp only [EV,zF,reduceIte]) ?_)
   ((repeat refine Ws ?_);refine W_regionE T_ok ?_; intro Kn hKn)
   ((simp (maxSteps := 1000000) only [VL,VM,↓VG,reduceIte,reduceCtorEq,zA,zB,zC,zD,zE,zF,zG,zH,zI,zJ, litWater, litShut, litBears, litKind, litEnd, v_eqS, k1]); rw [hKn];clear hKn Kn;simp only [QV,reduceIte,reduceCtorEq,Nat.reduceEqDiff])
   ((repeat refine Ws ?_);refine Wf (by first|rfl|simp only [EV,zF,reduceIte]) ?_)
   ((repeat refine Ws ?_);refine W_regionE T_ok ?_; intro Kn hKn)
   ((simp (maxSteps := 1000000) only [VL,VM,↓VG,reduceIte,reduceCtorEq,zA,zB,zC,zD,zE,zF,zG,zH,zI,zJ, litWater, litShut, litBears, litKind, litEnd, v_eqS, k2]); rw [hKn];clear hKn Kn;simp only [QV,reduceIte,reduceCtorEq,Nat.reduceEqDiff])
   ((repeat refine Ws ?_);refine Wf (by first|rfl|simp only [EV,zF,reduceIte]) ?_)
   ((repeat refine Ws ?_);refine W_regionE T_ok ?_; intro Kn hKn)
   ((simp (maxSteps := 1000000) only [VL,VM,↓VG,reduceIte,reduceCtorEq,zA,zB,zC,zD,zE,zF,zG,zH,zI,zJ, litWater, litShut, litBears, litKind, litEnd, v_eqS, k3]); rw [hKn];clear hKn Kn;simp only [QV,reduceIte,reduceCtorEq,Nat.reduceEqDiff])
   ((repeat refine Ws ?_);refine Wf (by first|rfl|simp only [EV,zF,reduceIte]) ?_)
   ((repeat refine Ws ?_);refine W_regionE T_ok ?_; intro Kn hKn)
   ((simp (maxSteps := 1000000) only [VL,VM,↓VG,reduceIte,reduceCtorEq,zA,zB,zC,zD,zE,zF,zG,zH,zI,zJ, litWater, litShut, litBears, litKind, litEnd, v_eqS, k4]); rw [hKn];clear hKn Kn;simp only [QV,reduceIte,reduceCtorEq,Nat.reduceEqDiff])
   ((repeat refine Ws ?_);refine Wf (by first|rfl|simp only [EV,zF,reduceIte]) ?_)
   ((repeat refine Ws ?_);refine W_regionE T_ok ?_; intro Kn hKn)
   simp (maxSteps := 1000000) only [VL,VM,↓VG,reduceIte,reduceCtorEq,zA,zB,zC,zD,zE,zF,zG,zH,zI,zJ]
   rw [hKn]
   exact ⟨rfl, rfl, .inr ⟨y, L, hs0.trans (bad (fun e => hl2 e.2.1) (fun e => absurd (h0.symm.trans e.1) (by decide)) (fun e => absurd (h0.symm.trans e.1) (by decide)) (fun e => absurd (h0.symm.trans e.1) (by decide)) (fun e => absurd (h0.symm.trans e.1) (by decide))), rfl, ⟨rfl, rfl, rfl, trivial⟩⟩⟩
  have kl : ((l.length : Int) = 2) = True := eq_true (by omega)
  by_cases hm : y.shut.length + y.bears.length + y.kinds.length = 0
  rotate_left
  ·have km : ((y.shut.length : Int) + (y.bears.length : Int) + (y.kinds.length : Int) = 0) = False := eq_false (by omega)
   ((repeat refine Ws ?_);refine W_regionE T_ok ?_; intro Kn hKn)
   ((simp (maxSteps := 1000000) only [VL,VM,↓VG,reduceIte,reduceCtorEq,zA,zB,zC,zD,zE,zF,zG,zH,zI,zJ, litWater, litShut, litBears, litKind, litEnd, v_eqS, k0, kl, PM_0, r1, r2, r3, km]); rw [hKn];clear hKn Kn;simp only [QV,reduceIte,reduceCtorEq,Nat.reduceEqDiff])
   ((repeat refine Ws ?_);refine Wf (by first|rfl|simp only [EV,zF,reduceIte]) ?_)
   ((repeat refine Ws ?_);refine W_regionE T_ok ?_; intro Kn hKn)
   ((simp (maxSteps := 1000000) only [VL,VM,↓VG,reduceIte,reduceCtorEq,zA,zB,zC,zD,zE,zF,zG,zH,zI,zJ, litWater, litShut, litBears, litKind, litEnd, v_eqS, k1]); rw [hKn];clear hKn Kn;simp only [QV,reduceIte,reduceCtorEq,Nat.reduceEqDiff])
   ((repeat refine Ws ?_);refine Wf (by first|rfl|simp only [EV,zF,reduceIte]) ?_)
   ((repeat refine Ws ?_);refine W_regionE T_ok ?_; intro Kn hKn)
   ((simp (maxSteps := 1000000) only [VL,VM,↓VG,reduceIte,reduceCtorEq,zA,zB,zC,zD,zE,zF,zG,zH,zI,zJ, litWater, litShut, litBears, litKind, litEnd, v_eqS, k2]); rw [hKn];clear hKn Kn;simp only [QV,reduceIte,reduceCtorEq,Nat.reduceEqDiff])
   ((repeat refine Ws ?_);refine Wf (by first|rfl|simp only [EV,zF,reduceIte]) ?_)
   ((repeat refine Ws ?_);refine W_regionE T_ok ?_; intro Kn hKn)
   ((simp (maxSteps := 1000000) only [VL,VM,↓VG,reduceIte,reduceCtorEq,zA,zB,zC,zD,zE,zF,zG,zH,zI,zJ, litWater, litShut, litBears, litKind, litEnd, v_eqS, k3]); rw [hKn];clear hKn Kn;simp only [QV,reduceIte,reduceCtorEq,Nat.reduceEqDiff])
   ((repeat refine Ws ?_);refine Wf (by first|rfl|simp only [EV,zF,reduceIte]) ?_)
   ((repeat refine Ws ?_);refine W_regionE T_ok ?_; intro Kn hKn)
   ((simp (maxSteps := 1000000) only [VL,VM,↓VG,reduceIte,reduceCtorEq,zA,zB,zC,zD,zE,zF,zG,zH,zI,zJ, litWater, litShut, litBears, litKind, litEnd, v_eqS, k4]); rw [hKn];clear hKn Kn;simp only [QV,reduceIte,reduceCtorEq,Nat.reduceEqDiff])
   ((repeat refine Ws ?_);refine Wf (by first|rfl|simp only [EV,zF,reduceIte]) ?_)
   ((repeat refine Ws ?_);refine W_regionE T_ok ?_; intro Kn hKn)
   simp (maxSteps := 1000000) only [VL,VM,↓VG,reduceIte,reduceCtorEq,zA,zB,zC,zD,zE,zF,zG,zH,zI,zJ]
   rw [hKn]
   exact ⟨rfl, rfl, .inr ⟨y, L, hs0.trans (bad (fun e => hm e.2.2) (fun e => absurd (h0.symm.trans e.1) (by decide)) (fun e => absurd (h0.symm.trans e.1) (by decide)) (fun e => absurd (h0.symm.trans e.1) (by decide)) (fun e => absurd (h0.symm.trans e.1) (by decide))), rfl, ⟨rfl, rfl, rfl, trivial⟩⟩⟩
  have km : ((y.shut.length : Int) + (y.bears.length : Int) + (y.kinds.length : Int) = 0) = True := eq_true (by omega)
  ((repeat refine Ws ?_);refine W_regionE T_ok ?_; intro Kn hKn)
  ((simp (maxSteps := 1000000) only [VL,VM,↓VG,reduceIte,reduceCtorEq,zA,zB,zC,zD,zE,zF,zG,zH,zI,zJ, litWater, litShut, litBears, litKind, litEnd, v_eqS, k0, kl, PM_0, r1, r2, r3, km]); rw [hKn];clear hKn Kn;simp only [QV,reduceIte,reduceCtorEq,Nat.reduceEqDiff])
  ((repeat refine Ws ?_);refine Wt (by first|rfl|simp only [EV,zF,reduceIte]) ?_)
  have q1 : ((y.water.length + 1) * 16 ≤ 140737488355328) = True := eq_true (by omega)
  obtain ⟨a, c, rfl⟩ := twoL hl2
  (repeat refine Ws ?_)
  refine W_drawE T_ok [] (by kernel_rfl) (by kernel_rfl) ?_
  intro Kn hKn
  generalize hi : mkPlan _ = infs
  cbv at hi
  subst hi
  simp (maxSteps := 1000000) only [VL,VM,↓VG,reduceIte,reduceCtorEq,zA,zB,zC,zD,zE,zF,zG,zH,zI,zJ, PM_at, PM_0, PM_1, PM_s0, PM_s1, a1, a2, a3, a4, q1]
  rw [hKn]
  refine ⟨rfl, rfl, .inl ⟨{ y with water := y.water ++ [⟨a, c⟩] }, false, L, hs0.trans (by unfold rsPut; rw [if_neg hi0, if_pos ⟨h0, rfl, hm⟩]; rfl), ?_, ⟨rfl, rfl, rfl, rfl, rfl, rfl, trivial⟩⟩⟩
  simp [PM, yD]
 have k0 : (w = wWater) = False := eq_false h0
 ((repeat refine Ws ?_);refine W_regionE T_ok ?_; intro Kn hKn)
 ((simp (maxSteps := 1000000) only [VL,VM,↓VG,reduceIte,reduceCtorEq,zA,zB,zC,zD,zE,zF,zG,zH,zI,zJ, litWater, litShut, litBears, litKind, litEnd, v_eqS, k0]); rw [hKn];clear hKn Kn;simp only [QV,reduceIte,reduceCtorEq,Nat.reduceEqDiff])
 ((repeat refine Ws ?_);refine Wf (by first|rfl|simp only [EV,zF,reduceIte]) ?_)
 by_cases h1 : w = wShut
 ·have k1 : (w = wShut) = True := eq_true h1
  have k2 : (w = wBears) = False := eq_false (by rw [h1]; decide)
  have k3 : (w = wKind) = False := eq_false (by rw [h1]; decide)
  have k4 : (w = wEnd) = False := eq_false (by rw [h1]; decide)
  by_cases hl2 : l.length = 2
  rotate_left
  ·have kl : ((l.length : Int) = 2) = False := eq_false (by omega)
   ((repeat refine Ws ?_);refine W_regionE T_ok ?_; intro Kn hKn)
   ((simp (maxSteps := 1000000) only [VL,VM,↓VG,reduceIte,reduceCtorEq,zA,zB,zC,zD,zE,zF,zG,zH,zI,zJ, litWater, litShut, litBears, litKind, litEnd, v_eqS, k1, kl]); rw [hKn];clear hKn Kn;simp only [QV,reduceIte,reduceCtorEq,Nat.reduceEqDiff])
   ((repeat refine Ws ?_);refine Wf (by first|rfl|simp only [EV,zF,reduceIte]) ?_)
   ((repeat refine Ws ?_);refine W_regionE T_ok ?_; intro Kn hKn)
   ((simp (maxSteps := 1000000) only [VL,VM,↓VG,reduceIte,reduceCtorEq,zA,zB,zC,zD,zE,zF,zG,zH,zI,zJ, litWater, litShut, litBears, litKind, litEnd, v_eqS, k2]); rw [hKn];clear hKn Kn;simp only [QV,reduceIte,reduceCtorEq,Nat.reduceEqDiff])
   ((repeat refine Ws ?_);refine Wf (by first|rfl|simp only [EV,zF,reduceIte]) ?_)
   ((repeat refine Ws ?_);refine W_regionE T_ok ?_; intro Kn hKn)
   ((simp (maxSteps := 1000000) only [VL,VM,↓VG,reduceIte,reduceCtorEq,zA,zB,zC,zD,zE,zF,zG,zH,zI,zJ, litWater, litShut, litBears, litKind, litEnd, v_eqS, k3]); rw [hKn];clear hKn Kn;simp only [QV,reduceIte,reduceCtorEq,Nat.reduceEqDiff])
   ((repeat refine Ws ?_);refine Wf (by first|rfl|simp only [EV,zF,reduceIte]) ?_)
   ((repeat refine Ws ?_);refine W_regionE T_ok ?_; intro Kn hKn)
   ((simp (maxSteps := 1000000) only [VL,VM,↓VG,reduceIte,reduceCtorEq,zA,zB,zC,zD,zE,zF,zG,zH,zI,zJ, litWater, litShut, litBears, litKind, litEnd, v_eqS, k4]); rw [hKn];clear hKn Kn;simp only [QV,reduceIte,reduceCtorEq,Nat.reduceEqDiff])
   ((repeat refine Ws ?_);refine Wf (by first|rfl|simp only [EV,zF,reduceIte]) ?_)
   ((repeat refine Ws ?_);refine W_regionE T_ok ?_; intro Kn hKn)
   simp (maxSteps := 1000000) only [VL,VM,↓VG,reduceIte,reduceCtorEq,zA,zB,zC,zD,zE,zF,zG,zH,zI,zJ]
   rw [hKn]
   exact ⟨rfl, rfl, .inr ⟨y, L, hs0.trans (bad (fun e => h0 e.1) (fun e => hl2 e.2.1) (fun e => absurd (h1.symm.trans e.1) (by decide)) (fun e => absurd (h1.symm.trans e.1) (by decide)) (fun e => absurd (h1.symm.trans e.1) (by decide))), rfl, ⟨rfl, rfl, rfl, trivial⟩⟩⟩
  have kl : ((l.length : Int) = 2) = True := eq_true (by omega)
  by_cases hm : y.bears.length + y.kinds.length = 0
  rotate_left
  ·have km : ((y.bears.length : Int) + (y.kinds.length : Int) = 0) = False := eq_false (by omega)
   ((repeat refine Ws ?_);refine W_regionE T_ok ?_; intro Kn hKn)
   ((simp (maxSteps := 1000000) only [VL,VM,↓VG,reduceIte,reduceCtorEq,zA,zB,zC,zD,zE,zF,zG,zH,zI,zJ, litWater, litShut, litBears, litKind, litEnd, v_eqS, k1, kl, PM_0, r1, r2, r3, km]); rw [hKn];clear hKn Kn;simp only [QV,reduceIte,reduceCtorEq,Nat.reduceEqDiff])
   ((repeat refine Ws ?_);refine Wf (by first|rfl|simp only [EV,zF,reduceIte]) ?_)
   ((repeat refine Ws ?_);refine W_regionE T_ok ?_; intro Kn hKn)
   ((simp (maxSteps := 1000000) only [VL,VM,↓VG,reduceIte,reduceCtorEq,zA,zB,zC,zD,zE,zF,zG,zH,zI,zJ, litWater, litShut, litBears, litKind, litEnd, v_eqS, k2]); rw [hKn];clear hKn Kn;simp only [QV,reduceIte,reduceCtorEq,Nat.reduceEqDiff])
   ((repeat refine Ws ?_);refine Wf (by first|rfl|simp only [EV,zF,reduceIte]) ?_)
   ((repeat refine Ws ?_);refine W_regionE T_ok ?_; intro Kn hKn)
   ((simp (maxSteps := 1000000) only [VL,VM,↓VG,reduceIte,reduceCtorEq,zA,zB,zC,zD,zE,zF,zG,zH,zI,zJ, litWater, litShut, litBears, litKind, litEnd, v_eqS, k3]); rw [hKn];clear hKn Kn;simp only [QV,reduceIte,reduceCtorEq,Nat.reduceEqDiff])
   ((repeat refine Ws ?_);refine Wf (by first|rfl|simp only [EV,zF,reduceIte]) ?_)
   ((repeat refine Ws ?_);refine W_regionE T_ok ?_; intro Kn hKn)
   ((simp (maxSteps := 1000000) only [VL,VM,↓VG,reduceIte,reduceCtorEq,zA,zB,zC,zD,zE,zF,zG,zH,zI,zJ, litWater, litShut, litBears, litKind, litEnd, v_eqS, k4]); rw [hKn];clear hKn Kn;simp only [QV,reduceIte,reduceCtorEq,Nat.reduceEqDiff])
   ((repeat refine Ws ?_);refine Wf (by first|rfl|simp only [EV,zF,reduceIte]) ?_)
   ((repeat refine Ws ?_);refine W_regionE T_ok ?_; intro Kn hKn)
   simp (maxSteps := 1000000) only [VL,VM,↓VG,reduceIte,reduceCtorEq,zA,zB,zC,zD,zE,zF,zG,zH,zI,zJ]
   rw [hKn]
   exact ⟨rfl, rfl, .inr ⟨y, L, hs0.trans (bad (fun e => h0 e.1) (fun e => hm e.2.2) (fun e => absurd (h1.symm.trans e.1) (by decide)) (fun e => absurd (h1.symm.trans e.1) (by decide)) (fun e => absurd (h1.symm.trans e.1) (by decide))), rfl, ⟨rfl, rfl, rfl, trivial⟩⟩⟩
  have km : ((y.bears.length : Int) + (y.kinds.length : Int) = 0) = True := eq_true (by omega)
  ((repeat refine Ws ?_);refine W_regionE T_ok ?_; intro Kn hKn)
  ((simp (maxSteps := 1000000) only [VL,VM,↓VG,reduceIte,reduceCtorEq,zA,zB,zC,zD,zE,zF,zG,zH,zI,zJ, litWater, litShut, litBears, litKind, litEnd, v_eqS, k1, kl, PM_0, r1, r2, r3, km]); rw [hKn];clear hKn Kn;simp only [QV,reduceIte,reduceCtorEq,Nat.reduceEqDiff])
  ((repeat refine Ws ?_);refine Wt (by first|rfl|simp only [EV,zF,reduceIte]) ?_)
  have q1 : ((y.shut.length + 1) * 16 ≤ 140737488355328) = True := eq_true (by omega)
  obtain ⟨a, c, rfl⟩ := twoL hl2
  (repeat refine Ws ?_)
  refine W_drawE T_ok [] (by kernel_rfl) (by kernel_rfl) ?_
  intro Kn hKn
  generalize hi : mkPlan _ = infs
  cbv at hi
  subst hi
  simp (maxSteps := 1000000) only [VL,VM,↓VG,reduceIte,reduceCtorEq,zA,zB,zC,zD,zE,zF,zG,zH,zI,zJ, PM_at, PM_0, PM_2, PM_s0, PM_s2, a1, a2, a3, a4, q1]
  rw [hKn]
  refine ⟨rfl, rfl, .inl ⟨{ y with shut := y.shut ++ [⟨a, c⟩] }, false, L, hs0.trans (by unfold rsPut; rw [if_neg hi0, if_neg (fun e => h0 e.1), if_pos ⟨h1, rfl, hm⟩]; rfl), ?_, ⟨rfl, rfl, rfl, rfl, rfl, rfl, trivial⟩⟩⟩
  simp [PM, yD]
 have k1 : (w = wShut) = False := eq_false h1
 ((repeat refine Ws ?_);refine W_regionE T_ok ?_; intro Kn hKn)
 ((simp (maxSteps := 1000000) only [VL,VM,↓VG,reduceIte,reduceCtorEq,zA,zB,zC,zD,zE,zF,zG,zH,zI,zJ, litWater, litShut, litBears, litKind, litEnd, v_eqS, k1]); rw [hKn];clear hKn Kn;simp only [QV,reduceIte,reduceCtorEq,Nat.reduceEqDiff])
 ((repeat refine Ws ?_);refine Wf (by first|rfl|simp only [EV,zF,reduceIte]) ?_)
 by_cases h2 : w = wBears
 ·have k2 : (w = wBears) = True := eq_true h2
  have k3 : (w = wKind) = False := eq_false (by rw [h2]; decide)
  have k4 : (w = wEnd) = False := eq_false (by rw [h2]; decide)
  by_cases hl2 : l.length = 1
  rotate_left
  ·have kl : ((l.length : Int) = 1) = False := eq_false (by omega)
   ((repeat refine Ws ?_);refine W_regionE T_ok ?_; intro Kn hKn)
   ((simp (maxSteps := 1000000) only [VL,VM,↓VG,reduceIte,reduceCtorEq,zA,zB,zC,zD,zE,zF,zG,zH,zI,zJ, litWater, litShut, litBears, litKind, litEnd, v_eqS, k2, kl]); rw [hKn];clear hKn Kn;simp only [QV,reduceIte,reduceCtorEq,Nat.reduceEqDiff])
   ((repeat refine Ws ?_);refine Wf (by first|rfl|simp only [EV,zF,reduceIte]) ?_)
   ((repeat refine Ws ?_);refine W_regionE T_ok ?_; intro Kn hKn)
   ((simp (maxSteps := 1000000) only [VL,VM,↓VG,reduceIte,reduceCtorEq,zA,zB,zC,zD,zE,zF,zG,zH,zI,zJ, litWater, litShut, litBears, litKind, litEnd, v_eqS, k3]); rw [hKn];clear hKn Kn;simp only [QV,reduceIte,reduceCtorEq,Nat.reduceEqDiff])
   ((repeat refine Ws ?_);refine Wf (by first|rfl|simp only [EV,zF,reduceIte]) ?_)
   ((repeat refine Ws ?_);refine W_regionE T_ok ?_; intro Kn hKn)
   ((simp (maxSteps := 1000000) only [VL,VM,↓VG,reduceIte,reduceCtorEq,zA,zB,zC,zD,zE,zF,zG,zH,zI,zJ, litWater, litShut, litBears, litKind, litEnd, v_eqS, k4]); rw [hKn];clear hKn Kn;simp only [QV,reduceIte,reduceCtorEq,Nat.reduceEqDiff])
   ((repeat refine Ws ?_);refine Wf (by first|rfl|simp only [EV,zF,reduceIte]) ?_)
   ((repeat refine Ws ?_);refine W_regionE T_ok ?_; intro Kn hKn)
   simp (maxSteps := 1000000) only [VL,VM,↓VG,reduceIte,reduceCtorEq,zA,zB,zC,zD,zE,zF,zG,zH,zI,zJ]
   rw [hKn]
   exact ⟨rfl, rfl, .inr ⟨y, L, hs0.trans (bad (fun e => h0 e.1) (fun e => h1 e.1) (fun e => hl2 e.2.1) (fun e => absurd (h2.symm.trans e.1) (by decide)) (fun e => absurd (h2.symm.trans e.1) (by decide))), rfl, ⟨rfl, rfl, rfl, trivial⟩⟩⟩
  have kl : ((l.length : Int) = 1) = True := eq_true (by omega)
  by_cases hm : y.kinds.length = 0
  rotate_left
  ·have km : ((y.kinds.length : Int) = 0) = False := eq_false (by omega)
   ((repeat refine Ws ?_);refine W_regionE T_ok ?_; intro Kn hKn)
   ((simp (maxSteps := 1000000) only [VL,VM,↓VG,reduceIte,reduceCtorEq,zA,zB,zC,zD,zE,zF,zG,zH,zI,zJ, litWater, litShut, litBears, litKind, litEnd, v_eqS, k2, kl, PM_0, r1, r2, r3, km]); rw [hKn];clear hKn Kn;simp only [QV,reduceIte,reduceCtorEq,Nat.reduceEqDiff])
   ((repeat refine Ws ?_);refine Wf (by first|rfl|simp only [EV,zF,reduceIte]) ?_)
   ((repeat refine Ws ?_);refine W_regionE T_ok ?_; intro Kn hKn)
   ((simp (maxSteps := 1000000) only [VL,VM,↓VG,reduceIte,reduceCtorEq,zA,zB,zC,zD,zE,zF,zG,zH,zI,zJ, litWater, litShut, litBears, litKind, litEnd, v_eqS, k3]); rw [hKn];clear hKn Kn;simp only [QV,reduceIte,reduceCtorEq,Nat.reduceEqDiff])
   ((repeat refine Ws ?_);refine Wf (by first|rfl|simp only [EV,zF,reduceIte]) ?_)
   ((repeat refine Ws ?_);refine W_regionE T_ok ?_; intro Kn hKn)
   ((simp (maxSteps := 1000000) only [VL,VM,↓VG,reduceIte,reduceCtorEq,zA,zB,zC,zD,zE,zF,zG,zH,zI,zJ, litWater, litShut, litBears, litKind, litEnd, v_eqS, k4]); rw [hKn];clear hKn Kn;simp only [QV,reduceIte,reduceCtorEq,Nat.reduceEqDiff])
   ((repeat refine Ws ?_);refine Wf (by first|rfl|simp only [EV,zF,reduceIte]) ?_)
   ((repeat refine Ws ?_);refine W_regionE T_ok ?_; intro Kn hKn)
   simp (maxSteps := 1000000) only [VL,VM,↓VG,reduceIte,reduceCtorEq,zA,zB,zC,zD,zE,zF,zG,zH,zI,zJ]
   rw [hKn]
   exact ⟨rfl, rfl, .inr ⟨y, L, hs0.trans (bad (fun e => h0 e.1) (fun e => h1 e.1) (fun e => hm e.2.2) (fun e => absurd (h2.symm.trans e.1) (by decide)) (fun e => absurd (h2.symm.trans e.1) (by decide))), rfl, ⟨rfl, rfl, rfl, trivial⟩⟩⟩
  have km : ((y.kinds.length : Int) = 0) = True := eq_true (by omega)
  ((repeat refine Ws ?_);refine W_regionE T_ok ?_; intro Kn hKn)
  ((simp (maxSteps := 1000000) only [VL,VM,↓VG,reduceIte,reduceCtorEq,zA,zB,zC,zD,zE,zF,zG,zH,zI,zJ, litWater, litShut, litBears, litKind, litEnd, v_eqS, k2, kl, PM_0, r1, r2, r3, km]); rw [hKn];clear hKn Kn;simp only [QV,reduceIte,reduceCtorEq,Nat.reduceEqDiff])
  ((repeat refine Ws ?_);refine Wt (by first|rfl|simp only [EV,zF,reduceIte]) ?_)
  have q1 : ((y.bears.length + 1) * 8 ≤ 140737488355328) = True := eq_true (by omega)
  obtain ⟨a, rfl⟩ := one hl2
  (repeat refine Ws ?_)
  refine W_drawE T_ok [] (by kernel_rfl) (by kernel_rfl) ?_
  intro Kn hKn
  generalize hi : mkPlan _ = infs
  cbv at hi
  subst hi
  simp (maxSteps := 1000000) only [VL,VM,↓VG,reduceIte,reduceCtorEq,zA,zB,zC,zD,zE,zF,zG,zH,zI,zJ, PM_at, PM_0, PM_3, PM_s0, PM_s3, a1, a2, a3, a4, q1]
  rw [hKn]
  refine ⟨rfl, rfl, .inl ⟨{ y with bears := y.bears ++ [a] }, false, L, hs0.trans (by unfold rsPut; rw [if_neg hi0, if_neg (fun e => h0 e.1), if_neg (fun e => h1 e.1), if_pos ⟨h2, rfl, hm⟩]; rfl), ?_, ⟨rfl, rfl, rfl, rfl, rfl, rfl, trivial⟩⟩⟩
  simp [PM, yD]
 have k2 : (w = wBears) = False := eq_false h2
 ((repeat refine Ws ?_);refine W_regionE T_ok ?_; intro Kn hKn)
 ((simp (maxSteps := 1000000) only [VL,VM,↓VG,reduceIte,reduceCtorEq,zA,zB,zC,zD,zE,zF,zG,zH,zI,zJ, litWater, litShut, litBears, litKind, litEnd, v_eqS, k2]); rw [hKn];clear hKn Kn;simp only [QV,reduceIte,reduceCtorEq,Nat.reduceEqDiff])
 ((repeat refine Ws ?_);refine Wf (by first|rfl|simp only [EV,zF,reduceIte]) ?_)
 by_cases h3 : w = wKind
 ·have k3 : (w = wKind) = True := eq_true h3
  have k4 : (w = wEnd) = False := eq_false (by rw [h3]; decide)
  by_cases hl5 : 5 ≤ l.length
  rotate_left
  ·have kl : ((5 : Int) ≤ (l.length : Int)) = False := eq_false (by omega)
   ((repeat refine Ws ?_);refine W_regionE T_ok ?_; intro Kn hKn)
   ((simp (maxSteps := 1000000) only [VL,VM,↓VG,reduceIte,reduceCtorEq,zA,zB,zC,zD,zE,zF,zG,zH,zI,zJ, litWater, litShut, litBears, litKind, litEnd, v_eqS, k3, kl]); rw [hKn];clear hKn Kn;simp only [QV,reduceIte,reduceCtorEq,Nat.reduceEqDiff])
   ((repeat refine Ws ?_);refine Wf (by first|rfl|simp only [EV,zF,reduceIte]) ?_)
   ((repeat refine Ws ?_);refine W_regionE T_ok ?_; intro Kn hKn)
   ((simp (maxSteps := 1000000) only [VL,VM,↓VG,reduceIte,reduceCtorEq,zA,zB,zC,zD,zE,zF,zG,zH,zI,zJ, litWater, litShut, litBears, litKind, litEnd, v_eqS, k4]); rw [hKn];clear hKn Kn;simp only [QV,reduceIte,reduceCtorEq,Nat.reduceEqDiff])
   ((repeat refine Ws ?_);refine Wf (by first|rfl|simp only [EV,zF,reduceIte]) ?_)
   ((repeat refine Ws ?_);refine W_regionE T_ok ?_; intro Kn hKn)
   simp (maxSteps := 1000000) only [VL,VM,↓VG,reduceIte,reduceCtorEq,zA,zB,zC,zD,zE,zF,zG,zH,zI,zJ]
   rw [hKn]
   exact ⟨rfl, rfl, .inr ⟨y, L, hs0.trans (bad (fun e => h0 e.1) (fun e => h1 e.1) (fun e => h2 e.1) (fun e => hl5 e.2.1) (fun e => absurd (h3.symm.trans e.1) (by decide))), rfl, ⟨rfl, rfl, rfl, trivial⟩⟩⟩
  obtain ⟨b0, b1, b2, b3, b4, r, rfl⟩ := five hl5
  have kl : ((5 : Int) ≤ ((r.length + 5 : Nat) : Int)) = True := eq_true (by omega)
  have hrl : r.length ≤ 100000 := by simp at hll; omega
  by_cases hb2 : b2 < 2
  rotate_left
  ·have kb : (b2 < 2) = False := eq_false hb2
   ((repeat refine Ws ?_);refine W_regionE T_ok ?_; intro Kn hKn)
   ((simp (maxSteps := 1000000) only [VL,VM,↓VG,reduceIte,reduceCtorEq,zA,zB,zC,zD,zE,zF,zG,zH,zI,zJ, litWater, litShut, litBears, litKind, litEnd, v_eqS, k3, kl, kb]); rw [hKn];clear hKn Kn;simp only [QV,reduceIte,reduceCtorEq,Nat.reduceEqDiff])
   ((repeat refine Ws ?_);refine Wf (by first|rfl|simp only [EV,zF,reduceIte]) ?_)
   ((repeat refine Ws ?_);refine W_regionE T_ok ?_; intro Kn hKn)
   ((simp (maxSteps := 1000000) only [VL,VM,↓VG,reduceIte,reduceCtorEq,zA,zB,zC,zD,zE,zF,zG,zH,zI,zJ, litWater, litShut, litBears, litKind, litEnd, v_eqS, k4]); rw [hKn];clear hKn Kn;simp only [QV,reduceIte,reduceCtorEq,Nat.reduceEqDiff])
   ((repeat refine Ws ?_);refine Wf (by first|rfl|simp only [EV,zF,reduceIte]) ?_)
   ((repeat refine Ws ?_);refine W_regionE T_ok ?_; intro Kn hKn)
   simp (maxSteps := 1000000) only [VL,VM,↓VG,reduceIte,reduceCtorEq,zA,zB,zC,zD,zE,zF,zG,zH,zI,zJ]
   rw [hKn]
   exact ⟨rfl, rfl, .inr ⟨y, L, hs0.trans (bad (fun e => h0 e.1) (fun e => h1 e.1) (fun e => h2 e.1) (fun e => hb2 (by have := e.2.2; simpa only [List.getD_cons_succ, List.getD_cons_zero] using this)) (fun e => absurd (h3.symm.trans e.1) (by decide))), rfl, ⟨rfl, rfl, rfl, trivial⟩⟩⟩
  have kb : (b2 < 2) = True := eq_true hb2
  have q1 : ((y.kinds.length + 1) * 64 ≤ 140737488355328) = True := eq_true (by omega)
  have q2 : (r.length * 8 ≤ 140737488355328) = True := eq_true (by omega)
  ((repeat refine Ws ?_);refine W_regionE T_ok ?_; intro Kn hKn)
  ((simp (maxSteps := 1000000) only [VL,VM,↓VG,reduceIte,reduceCtorEq,zA,zB,zC,zD,zE,zF,zG,zH,zI,zJ, litWater, litShut, litBears, litKind, litEnd, v_eqS, k3, kl, kb]); rw [hKn];clear hKn Kn;simp only [QV,reduceIte,reduceCtorEq,Nat.reduceEqDiff])
  ((repeat refine Ws ?_);refine Wt (by first|rfl|simp only [EV,zF,reduceIte]) ?_)
  (repeat refine Ws ?_)
  refine W_drawE T_ok [] (by kernel_rfl) (by kernel_rfl) ?_
  intro Kn hKn
  generalize hi : mkPlan _ = infs
  cbv at hi
  subst hi
  simp (maxSteps := 1000000) only [VL,VM,↓VG,reduceIte,reduceCtorEq,zA,zB,zC,zD,zE,zF,zG,zH,zI,zJ, PM_at, PM_0, PM_4, PM_s0, PM_s4, PM_len, PM_app, List.take_length, a1, a2, a3, a4, q1, q2]
  rw [hKn]
  refine ⟨rfl, rfl, .inl ⟨{ y with kinds := y.kinds ++ [⟨b0, b1, decide (b2 = 1), r, b3, b4⟩] }, false, L ++ [.clm r.length 1], hs0.trans (by unfold rsPut; rw [if_neg hi0, if_neg (fun e => h0 e.1), if_neg (fun e => h1 e.1), if_neg (fun e => h2 e.1), if_pos ⟨h3, hl5, by simpa only [List.getD_cons_succ, List.getD_cons_zero] using hb2⟩]; rfl), ?_, ⟨rfl, rfl, rfl, rfl, rfl, rfl, trivial⟩⟩⟩
  simp [PM, yD]
 have k3 : (w = wKind) = False := eq_false h3
 ((repeat refine Ws ?_);refine W_regionE T_ok ?_; intro Kn hKn)
 ((simp (maxSteps := 1000000) only [VL,VM,↓VG,reduceIte,reduceCtorEq,zA,zB,zC,zD,zE,zF,zG,zH,zI,zJ, litWater, litShut, litBears, litKind, litEnd, v_eqS, k3]); rw [hKn];clear hKn Kn;simp only [QV,reduceIte,reduceCtorEq,Nat.reduceEqDiff])
 ((repeat refine Ws ?_);refine Wf (by first|rfl|simp only [EV,zF,reduceIte]) ?_)
 by_cases h4 : w = wEnd
 ·have k4 : (w = wEnd) = True := eq_true h4
  by_cases hl1 : l.length = 1
  rotate_left
  ·have kl : ((l.length : Int) = 1) = False := eq_false (by omega)
   ((repeat refine Ws ?_);refine W_regionE T_ok ?_; intro Kn hKn)
   ((simp (maxSteps := 1000000) only [VL,VM,↓VG,reduceIte,reduceCtorEq,zA,zB,zC,zD,zE,zF,zG,zH,zI,zJ, litWater, litShut, litBears, litKind, litEnd, v_eqS, k4, kl]); rw [hKn];clear hKn Kn;simp only [QV,reduceIte,reduceCtorEq,Nat.reduceEqDiff])
   ((repeat refine Ws ?_);refine Wf (by first|rfl|simp only [EV,zF,reduceIte]) ?_)
   ((repeat refine Ws ?_);refine W_regionE T_ok ?_; intro Kn hKn)
   simp (maxSteps := 1000000) only [VL,VM,↓VG,reduceIte,reduceCtorEq,zA,zB,zC,zD,zE,zF,zG,zH,zI,zJ]
   rw [hKn]
   exact ⟨rfl, rfl, .inr ⟨y, L, hs0.trans (bad (fun e => h0 e.1) (fun e => h1 e.1) (fun e => h2 e.1) (fun e => h3 e.1) (fun e => hl1 e.2)), rfl, ⟨rfl, rfl, rfl, trivial⟩⟩⟩
  have kl : ((l.length : Int) = 1) = True := eq_true (by omega)
  ((repeat refine Ws ?_);refine W_regionE T_ok ?_; intro Kn hKn)
  ((simp (maxSteps := 1000000) only [VL,VM,↓VG,reduceIte,reduceCtorEq,zA,zB,zC,zD,zE,zF,zG,zH,zI,zJ, litWater, litShut, litBears, litKind, litEnd, v_eqS, k4, kl]); rw [hKn];clear hKn Kn;simp only [QV,reduceIte,reduceCtorEq,Nat.reduceEqDiff])
  ((repeat refine Ws ?_);refine Wt (by first|rfl|simp only [EV,zF,reduceIte]) ?_)
  obtain ⟨a, rfl⟩ := one hl1
  by_cases ha : a = (y.kinds.length : Int)
  ·have ka : (a = (y.kinds.length : Int)) = True := eq_true ha
   (repeat refine Ws ?_)
   refine W_drawE T_ok [] (by kernel_rfl) (by kernel_rfl) ?_
   intro Kn hKn
   generalize hi : mkPlan _ = infs
   cbv at hi
   subst hi
   simp (maxSteps := 1000000) only [VL,VM,↓VG,reduceIte,reduceCtorEq,zA,zB,zC,zD,zE,zF,zG,zH,zI,zJ, PM_0, ka]
   rw [hKn]
   exact ⟨rfl, rfl, .inl ⟨y, true, L, hs0.trans (by unfold rsPut; rw [if_neg hi0, if_neg (fun e => h0 e.1), if_neg (fun e => h1 e.1), if_neg (fun e => h2 e.1), if_neg (fun e => h3 e.1), if_pos ⟨h4, rfl⟩]; exact if_pos ha), rfl, ⟨rfl, rfl, rfl, rfl, rfl, rfl, trivial⟩⟩⟩
  ·have ka : (a = (y.kinds.length : Int)) = False := eq_false ha
   (repeat refine Ws ?_)
   refine W_drawE T_ok [] (by kernel_rfl) (by kernel_rfl) ?_
   intro Kn hKn
   generalize hi : mkPlan _ = infs
   cbv at hi
   subst hi
   simp (maxSteps := 1000000) only [VL,VM,↓VG,reduceIte,reduceCtorEq,zA,zB,zC,zD,zE,zF,zG,zH,zI,zJ, PM_0, ka]
   rw [hKn]
   exact ⟨rfl, rfl, .inr ⟨y, L, hs0.trans (by unfold rsPut; rw [if_neg hi0, if_neg (fun e => h0 e.1), if_neg (fun e => h1 e.1), if_neg (fun e => h2 e.1), if_neg (fun e => h3 e.1), if_pos ⟨h4, rfl⟩]; exact if_neg ha), rfl, ⟨rfl, rfl, rfl, trivial⟩⟩⟩
 have k4 : (w = wEnd) = False := eq_false h4
 ((repeat refine Ws ?_);refine W_regionE T_ok ?_; intro Kn hKn)
 ((simp (maxSteps := 1000000) only [VL,VM,↓VG,reduceIte,reduceCtorEq,zA,zB,zC,zD,zE,zF,zG,zH,zI,zJ, litWater, litShut, litBears, litKind, litEnd, v_eqS, k4]); rw [hKn];clear hKn Kn;simp only [QV,reduceIte,reduceCtorEq,Nat.reduceEqDiff])
 ((repeat refine Ws ?_);refine Wf (by first|rfl|simp only [EV,zF,reduceIte]) ?_)
 ((repeat refine Ws ?_);refine W_regionE T_ok ?_; intro Kn hKn)
 simp (maxSteps := 1000000) only [VL,VM,↓VG,reduceIte,reduceCtorEq,zA,zB,zC,zD,zE,zF,zG,zH,zI,zJ]
 rw [hKn]
 exact ⟨rfl, rfl, .inr ⟨y, L, hs0.trans (bad (fun e => h0 e.1) (fun e => h1 e.1) (fun e => h2 e.1) (fun e => h3 e.1) (fun e => h4 e.1)), rfl, ⟨rfl, rfl, rfl, trivial⟩⟩⟩
end Go.Proofs.YtominlgikchnmaaGreatDoor.Vm
