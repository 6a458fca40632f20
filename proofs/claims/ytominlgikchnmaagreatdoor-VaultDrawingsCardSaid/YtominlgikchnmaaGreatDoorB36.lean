/- A part of the proofs about the chapter of the vaults; it states no condition of its own. -/
import Derived.Test.YtominlgikchnmaaGreatDoorB33
import Derived.Test.YtominlgikchnmaaGreatDoorB35
set_option linter.unusedVariables false
set_option linter.unusedSimpArgs false
open Int renaming reduceLE → zA, reduceLT → zB, reduceToNat → zC, reduceNeg → zD
open Nat renaming reduceLT → zE, reduceEqDiff → zF, reduceAdd → zG, reduceSub → zH, reduceMul → zI, reduceLeDiff → zJ
/- The program's Read, on values. (Vm) -/
namespace Go.Proofs.YtominlgikchnmaaGreatDoor.Vm
open Go Go.Proofs
theorem litNil : (⟨#[]⟩ : ByteArray) = tx [] := rfl
theorem v_neTT : vbin T .neq 4 (vb true) (vb true) = some (vb false) := by simp [vbin, t_bool]
theorem v_neTF : vbin T .neq 4 (vb true) (vb false) = some (vb true) := by simp [vbin, t_bool]
theorem v_neFT : vbin T .neq 4 (vb false) (vb true) = some (vb true) := by simp [vbin, t_bool]
theorem v_neFF : vbin T .neq 4 (vb false) (vb false) = some (vb false) := by simp [vbin, t_bool]
theorem W_blockN {P : Program} {cx : Cx} {e : Env} {M : Mem} {D : List Nat} {Q : PQ} {id : Nat} {c : Code} {R : Env → Mem → Prop} (h : WCode P cx c e M D (fun ex e' M' D' => ex = .normal ∧ D' = D ∧ R e' M')) (hR : ∀ e' M', R e' M' → Q .normal e' M' D) : WCode P cx (.block id c) e M D Q :=
 W_block (h.mono fun ex e' M' D' ⟨h1, h2, h3⟩ => by
  subst h1 h2
  exact hR e' M' h3)
theorem four {l : List Int} (h : l.length = 4) : ∃ a b c d, l = [a, b, c, d] := by
 match l, h with
 | [a, b, c, d], _ => exact ⟨a, b, c, d, rfl⟩
def parW (s : By) : By := match parseR 8 s with
 | some (w, _) => w
 | none => []
def parL (s : By) : VV := match parseR 8 s with
 | some (_, l) => intsV l
 | none => .p (.sl 0 [])
def parB (s : By) : Bool := match parseR 8 s with
 | some _ => true
 | none => false
theorem pparse2_v (s : By) (M : Mem) (hs : s.length ≤ 100000) : VC Tryz.prog 41 [vs s] M (fun r M' => M' = M ∧ r = .tup [vs (parW s), parL s, vb (parB s)]) := by
 have h := pparse_v s M hs
 have e : parseT 8 s = .tup [vs (parW s), parL s, vb (parB s)] := by
  unfold parseT parW parL parB
  cases parseR 8 s <;> rfl
 rw [e] at h
 exact h
structure RsS where
 i : Nat
 y : Ha
 b : Bool
abbrev rsReadV (x : Ha × Int × Int) : VV := .tup [hallV x.1, vi x.2.1, vi x.2.2]
theorem own_retR {f : Nat} {fn : Func} {M : Mem} {L : List VObj} {X : List (Nat × Nat)} {e : Env} {y : Ha} {a b : Int} (h1 : fn.results.toList = [.cell 2 28, .tmp 3, .tmp 4]) (hX : ∀ e ∈ X, M.H.length ≤ e.1) (ho : L[0]? = some (.obj (hallC y))) (h2 : get e 2 = .ptr M.H.length 0) (h3 : get e 3 = vi a) (h4 : get e 4 = vi b) :
  ownQ T f fn M (fun r M' => M' = M ∧ r = rsReadV (y, a, b)) .ret e ⟨M.H ++ L, M.lg ++ X⟩ [] := by
 have hv : vresL T e ⟨M.H ++ L, M.lg ++ X⟩ fn.results.toList = some [hallV y, vi a, vi b] := by
  rw [h1]
  simp only [vresL, h2, h3, h4, vload, t_hall]
  rw [show (M.H ++ L)[M.H.length]? = some (.obj (hallC y)) by rw [List.getElem?_append_right (Nat.le_refl _), Nat.sub_self]; exact ho]
  rfl
 refine ⟨.inr rfl, rfl, ⟨X, rfl, hX⟩, M.H, L, rfl, rfl, _, hv, _, rfl, ?_, rfl, ?_⟩
 ·intro x hx
  simp [vtup, frz, frzL, refs, refsL] at hx
 ·simp [vtup, frz, frzL]
abbrev z0 : List VV := [vi 0, vi 0, .sf 0 [], .sf 0 [], vi 0, vi 0, .sf 0 [], .sf 0 []]
section
variable {P : Program} {cx : Cx} {e : Env} {D : List Nat} {Q : PQ} {c : Code}
theorem W_nil4 {H L : List VObj} {lg : List (Nat × Nat)} (h : WCode P cx c e ⟨H ++ .obj (hallC y0) :: L, lg⟩ D Q) : WCode P cx c e ⟨H ++ .obj z0 :: L, lg⟩ D Q := by
 refine W_nilobj (id := H.length) (off := 2) (k := 2) (k0 := 0) (cs := z0) (by simp) rfl ?_
 refine W_nilobj (id := H.length) (off := 3) (k := 2) (k0 := 0) (cs := [vi 0, vi 0, .p (.sl 2 []), .sf 0 [], vi 0, vi 0, .sf 0 [], .sf 0 []]) (by simp) rfl ?_
 refine W_nilobj (id := H.length) (off := 6) (k := 1) (k0 := 0) (cs := [vi 0, vi 0, .p (.sl 2 []), .p (.sl 2 []), vi 0, vi 0, .sf 0 [], .sf 0 []]) (by simp) rfl ?_
 refine W_nilobj (id := H.length) (off := 7) (k := 6) (k0 := 0) (cs := [vi 0, vi 0, .p (.sl 2 []), .p (.sl 2 []), vi 0, vi 0, .p (.sl 1 []), .sf 0 []]) (by simp) rfl ?_
 refine W_eqM (M' := ⟨H ++ .obj (hallC y0) :: L, lg⟩) (by simp [y0]) h
theorem W_ghost4 {H : List VObj} {lg : List (Nat × Nat)} (h : WCode P cx c e ⟨PM H y0 [], lg ++ LG4 H.length⟩ D Q) : WCode P cx c e ⟨H ++ [.obj z0], lg⟩ D Q := by
 refine W_ghost (id := H.length) (off := 2) (k := 2) (k0 := 0) (cs := z0) (by simp) rfl ?_
 refine W_ghost (id := H.length) (off := 3) (k := 2) (k0 := 0) (cs := [vi 0, vi 0, .so (H.length + 1) 2 [], .sf 0 [], vi 0, vi 0, .sf 0 [], .sf 0 []]) (by simp) rfl ?_
 refine W_ghost (id := H.length) (off := 6) (k := 1) (k0 := 0) (cs := [vi 0, vi 0, .so (H.length + 1) 2 [], .so (H.length + 2) 2 [], vi 0, vi 0, .sf 0 [], .sf 0 []]) (by simp) rfl ?_
 refine W_ghost (id := H.length) (off := 7) (k := 6) (k0 := 0) (cs := [vi 0, vi 0, .so (H.length + 1) 2 [], .so (H.length + 2) 2 [], vi 0, vi 0, .so (H.length + 3) 1 [], .sf 0 []]) (by simp) rfl ?_
 refine W_eqM (M' := ⟨PM H y0 [], lg ++ LG4 H.length⟩) (by simp [PMc, y0]) h
end
theorem rsPut_1 {i : Nat} {y : Ha} {w : By} {l : List Int} (h : ¬ i = 0) : rsPut i y w l = rsPut 1 y w l := by
 unfold rsPut
 rw [if_neg h, if_neg Nat.one_ne_zero]
theorem rsPut_hall {i : Nat} {y : Ha} {l : List Int} (h : ¬ i = 0) : rsPut i y wHall l = none := by
 unfold rsPut
 rw [if_neg h, if_neg (fun e => absurd e.1 (by decide)), if_neg (fun e => absurd e.1 (by decide)), if_neg (fun e => absurd e.1 (by decide)), if_neg (fun e => absurd e.1 (by decide)), if_neg (fun e => absurd e.1 (by decide))]
theorem rsPut_end {i : Nat} {y : Ha} {l : List Int} (h : ¬ i = 0) : rsPut i y wEnd l = if l.length = 1 ∧ l.getD 0 0 = (y.kinds.length : Int) then some (y, true) else none := by
 unfold rsPut
 rw [if_neg h, if_neg (fun e => absurd e.1 (by decide)), if_neg (fun e => absurd e.1 (by decide)), if_neg (fun e => absurd e.1 (by decide)), if_neg (fun e => absurd e.1 (by decide))]
 by_cases h1 : l.length = 1
 ·rw [if_pos ⟨rfl, h1⟩]
  by_cases h2 : l.getD 0 0 = (y.kinds.length : Int)
  ·rw [if_pos h2, if_pos ⟨h1, h2⟩]
  ·rw [if_neg h2, if_neg (fun e => h2 e.2)]
 ·rw [if_neg (fun e => h1 e.2), if_neg (fun e => h1 e.1)]
theorem rsPut_goes {y : Ha} {w : By} {l : List Int} {p : Ha × Bool} (hw : w ≠ wEnd) (h : rsPut 1 y w l = some p) : p.2 = false := by
 unfold rsPut at h
 rw [if_neg (by omega)] at h
 repeat' split at h
 all_goals first | cases h; rfl | (rename_i hc _; exact absurd hc.1 hw) | cases h
set_option maxRecDepth 8000 in
set_option maxHeartbeats 4000000 in
theorem pread_v (s : By) (M : Mem) (hs : s.length ≤ 9223372036854775807) : VC Tryz.prog 12 [vs s] M (fun r M' => M' = M ∧ r = rsReadV (rsRead s)) := by
 refine VC_own' T_ok (f := 12) (fn := Tryz.f12) (by kernel_rfl) rfl Tryz.ntmps12 (by rfl) (by rfl) ?_
 ((repeat refine Ws ?_);refine W_regionE T_ok ?_; intro Kn hKn)
 ((simp (maxSteps := 1000000) only [VL,VM,↓VG,reduceIte,reduceCtorEq,zA,zB,zC,zD,zE,zF,zG,zH,zI,zJ]); rw [hKn];clear hKn Kn;simp only [QV,reduceIte,reduceCtorEq,Nat.reduceEqDiff])
 ((repeat refine Ws ?_);refine W_regionE T_ok ?_; intro Kn hKn)
 rcases Nat.lt_or_ge 2500 s.length with h15 | h15
 ·have k1 : ((2500 : Int) < (s.length : Int)) = True := eq_true (by omega)
  ((simp (maxSteps := 1000000) only [VL,VM,↓VG,reduceIte,reduceCtorEq,zA,zB,zC,zD,zE,zF,zG,zH,zI,zJ, tx_size, k1]); rw [hKn];clear hKn Kn;simp only [QV,reduceIte,reduceCtorEq,Nat.reduceEqDiff])
  ((repeat refine Ws ?_);refine Wt (by first|rfl|simp only [EV,zF,reduceIte]) ?_)
  ((repeat refine Ws ?_);refine W_regionE T_ok ?_; intro Kn hKn)
  ((simp (maxSteps := 1000000) only [VL,VM,↓VG,reduceIte,reduceCtorEq,zA,zB,zC,zD,zE,zF,zG,zH,zI,zJ]); rw [hKn];clear hKn Kn;simp only [QV,reduceIte,reduceCtorEq,Nat.reduceEqDiff])
  rw [show rsRead s = (y0, 0, 10) by unfold rsRead; rw [if_pos h15]]
  refine W_nil4 ?_
  refine W_eqM (M' := ⟨M.H ++ [.obj (hallC y0)], M.lg ++ []⟩) (by simp) ?_
  (repeat refine Ws ?_)
  refine W_ret ?_
  try simp only [thenQ, blockQ]
  refine own_retR rfl (by simp) rfl rfl rfl rfl
 have k1 : ((2500 : Int) < (s.length : Int)) = False := eq_false (by omega)
 ((simp (maxSteps := 1000000) only [VL,VM,↓VG,reduceIte,reduceCtorEq,zA,zB,zC,zD,zE,zF,zG,zH,zI,zJ, tx_size, k1]); rw [hKn];clear hKn Kn;simp only [QV,reduceIte,reduceCtorEq,Nat.reduceEqDiff])
 ((repeat refine Ws ?_);refine Wf (by first|rfl|simp only [EV,zF,reduceIte]) ?_)
 (((repeat refine Ws ?_);refine W_skip ?_); simp only [QV,reduceIte,reduceCtorEq,Nat.reduceEqDiff])
 have hlen := cutL_len 10 s
 have hpos := cutL_pos 10 s
 have hpart := cutL_part 10 s
 ((repeat refine Ws ?_);refine W_regionE T_ok ?_; intro Kn hKn)
 simp (maxSteps := 1000000) only [VL,VM,↓VG,reduceIte,reduceCtorEq,zA,zB,zC,zD,zE,zF,zG,zH,zI,zJ, lit10]
 apply call_eq (f := 40) (fn := Tryz.f40) (by kernel_rfl) (by rfl)
 ·exact split_v (l := s) (c := 10) (by omega) _
 ((simp (maxSteps := 1000000) only [VL,VM,↓VG,reduceIte,reduceCtorEq,zA,zB,zC,zD,zE,zF,zG,zH,zI,zJ]); rw [hKn];clear hKn Kn;simp only [QV,reduceIte,reduceCtorEq,Nat.reduceEqDiff])
 have hread : rsRead s = match rsRun 0 (y0, false) ((cutL 10 s).take ((cutL 10 s).length - 1)) with
  | .inl i => (y0, (i : Int) + 1, 2)
  | .inr st => rsEnd (cutL 10 s) st := by
  unfold rsRead
  rw [if_neg (by omega)]
  rfl
 generalize cutL 10 s = rows at hlen hpos hpart hread ⊢
 have k2 : -9223372036854775808 ≤ (rows.length : Int) - 1 ∧ (rows.length : Int) - 1 < 9223372036854775808 := by omega
 have hidx : ((rows.length : Int) - 1).toNat = rows.length - 1 := by omega
 have hge0 : (0 ≤ (rows.length : Int) - 1) = True := eq_true (by omega)
 ((repeat refine Ws ?_);refine W_regionE T_ok ?_; intro Kn hKn)
 ((simp (maxSteps := 1000000) only [VL,VM,↓VG,reduceIte,reduceCtorEq,zA,zB,zC,zD,zE,zF,zG,zH,zI,zJ, strs_len, k2]); rw [hKn];clear hKn Kn;simp only [QV,reduceIte,reduceCtorEq,Nat.reduceEqDiff])
 (repeat refine Ws ?_)
 refine W_ghost4 ?_
 ((repeat refine Ws ?_);refine W_regionE T_ok ?_; intro Kn hKn)
 ((simp (maxSteps := 1000000) only [VL,VM,↓VG,reduceIte,reduceCtorEq,zA,zB,zC,zD,zE,zF,zG,zH,zI,zJ]); rw [hKn];clear hKn Kn;simp only [QV,reduceIte,reduceCtorEq,Nat.reduceEqDiff])
 ((repeat refine Ws ?_);refine W_regionE T_ok ?_; intro Kn hKn)
 have k5 : (rows.length - 1 ≤ rows.length) = True := eq_true (by omega)
 have hrl : (rows.take (rows.length - 1)).length = rows.length - 1 := by rw [List.length_take]; omega
 ((simp (maxSteps := 1000000) only [VL,VM,↓VG,reduceIte,reduceCtorEq,zA,zB,zC,zD,zE,zF,zG,zH,zI,zJ, strs_len, hidx, hge0, k5, decide_true, strs_take, hrl]); rw [hKn];clear hKn Kn;simp only [QV,reduceIte,reduceCtorEq,Nat.reduceEqDiff])
 have hrat : ∀ i, i < rows.length - 1 → (rows.take (rows.length - 1))[i]? = rows[i]? := fun i hi => by rw [List.getElem?_take, if_pos hi]
 generalize hrs : rows.take (rows.length - 1) = rs at hrl hrat ⊢
 ((repeat refine Ws ?_);refine W_block ?_; (repeat refine Ws ?_)); refine W_loopS (fun z : RsS => [(2, .ptr M.H.length 0), (5, strsW rows), (6, vi ((rows.length : Int) - 1)), (7, vb z.b), (25, strsW rs), (26, vi ((rows.length - 1 : Nat) : Int)), (27, vi z.i)]) (fun z => ⟨PM M.H z.y [], M.lg ++ LG4 M.H.length⟩) (fun z => rows.length - z.i) (fun z => z.i ≤ rows.length - 1 ∧ rsRun 0 (y0, false) (rows.take z.i) = .inr (z.y, z.b) ∧ RsOk z.i z.y) ⟨0, y0, false⟩ ⟨Nat.zero_le _, rfl, ⟨Nat.le_refl _, Nat.le_refl _, Nat.le_refl _, Nat.le_refl _, by simp [y0]⟩⟩ ⟨rfl, rfl, rfl, rfl, rfl, rfl, rfl, trivial⟩ rfl ?_
 rintro ⟨i, y, b⟩ ⟨hi, hrun, hok⟩
 simp only at hi hrun hok
 have k3 : -9223372036854775808 ≤ (i : Int) + 1 ∧ (i : Int) + 1 < 9223372036854775808 := by omega
 rcases Nat.lt_or_ge i (rows.length - 1) with hlt | hge
 rotate_left
 ·obtain rfl : i = rows.length - 1 := by omega
  have hres0 : rsRead s = rsEnd rows (y, b) := by rw [hread, hrun]
  have k4 : (((rows.length - 1 : Nat) : Int) < ((rows.length - 1 : Nat) : Int)) = False := eq_false (by omega)
  have hlt2 : rows.length - 1 < rows.length := by omega
  have hx := strs_at (List.getElem?_eq_getElem hlt2)
  have hlast : rows.getD (rows.length - 1) [] = rows[rows.length - 1] := by rw [List.getD_eq_getElem?_getD, List.getElem?_eq_getElem hlt2]; rfl
  have k6 : -9223372036854775808 ≤ (rows.length : Int) - 1 + 1 ∧ (rows.length : Int) - 1 + 1 < 9223372036854775808 := by omega
  have q6 : vbin T .add 3 (vi ((rows.length : Int) - 1)) (vi 1) = some (vi rows.length) := by
   rw [v_add T 3 _ _ k6]
   congr 3
   omega
  generalize rows[rows.length - 1] = last at hx hlast
  ((repeat refine Ws ?_);refine W_regionE T_ok ?_; intro Kn hKn)
  ((simp (maxSteps := 1000000) only [VL,VM,↓VG,reduceIte,reduceCtorEq,zA,zB,zC,zD,zE,zF,zG,zH,zI,zJ, k4]); rw [hKn];clear hKn Kn;simp only [QV,reduceIte,reduceCtorEq,Nat.reduceEqDiff])
  ((repeat refine Ws ?_);refine Wf (by first|rfl|simp only [EV,zF,reduceIte]) ?_)
  (((repeat refine Ws ?_);refine W_exit ?_); simp only [QV,reduceIte,reduceCtorEq,Nat.reduceEqDiff])
  ((repeat refine Ws ?_);refine W_regionE T_ok ?_; intro Kn hKn)
  cases b with
  | false =>
   have hres : rsRead s = (y0, (rows.length : Int), 2) := by
    rw [hres0]
    unfold rsEnd
    rw [if_pos (.inl rfl)]
   ((simp (maxSteps := 1000000) only [VL,VM,↓VG,reduceIte,reduceCtorEq,zA,zB,zC,zD,zE,zF,zG,zH,zI,zJ]); rw [hKn];clear hKn Kn;simp only [QV,reduceIte,reduceCtorEq,Nat.reduceEqDiff])
   ((repeat refine Ws ?_);refine Wt (by first|rfl|simp only [EV,zF,reduceIte]) ?_)
   ((repeat refine Ws ?_);refine W_regionE T_ok ?_; intro Kn hKn)
   ((simp (maxSteps := 1000000) only [VL,VM,↓VG,reduceIte,reduceCtorEq,zA,zB,zC,zD,zE,zF,zG,zH,zI,zJ, q6, PM_0, PM_s0]); rw [hKn];clear hKn Kn;simp only [QV,reduceIte,reduceCtorEq,Nat.reduceEqDiff])
   rw [hres]
   refine W_nil4 ?_
   (repeat refine Ws ?_)
   refine W_ret ?_
   try simp only [thenQ, blockQ]
   refine own_retR rfl (by simp) rfl rfl rfl rfl
  | true =>
   by_cases hl : last = []
   rotate_left
   ·have k5 : (last = []) = False := eq_false hl
    have hres : rsRead s = (y0, (rows.length : Int), 2) := by
     rw [hres0]
     unfold rsEnd
     rw [if_pos (.inr (by rw [hlast]; exact hl))]
    ((simp (maxSteps := 1000000) only [VL,VM,↓VG,reduceIte,reduceCtorEq,zA,zB,zC,zD,zE,zF,zG,zH,zI,zJ, hidx, hge0, hx, litNil, v_neS, k5]); rw [hKn];clear hKn Kn;simp only [QV,reduceIte,reduceCtorEq,Nat.reduceEqDiff])
    ((repeat refine Ws ?_);refine Wt (by first|rfl|simp only [EV,zF,reduceIte]) ?_)
    ((repeat refine Ws ?_);refine W_regionE T_ok ?_; intro Kn hKn)
    ((simp (maxSteps := 1000000) only [VL,VM,↓VG,reduceIte,reduceCtorEq,zA,zB,zC,zD,zE,zF,zG,zH,zI,zJ, q6, PM_0, PM_s0]); rw [hKn];clear hKn Kn;simp only [QV,reduceIte,reduceCtorEq,Nat.reduceEqDiff])
    rw [hres]
    refine W_nil4 ?_
    (repeat refine Ws ?_)
    refine W_ret ?_
    try simp only [thenQ, blockQ]
    refine own_retR rfl (by simp) rfl rfl rfl rfl
   have k5 : (last = []) = True := eq_true hl
   ((simp (maxSteps := 1000000) only [VL,VM,↓VG,reduceIte,reduceCtorEq,zA,zB,zC,zD,zE,zF,zG,zH,zI,zJ, hidx, hge0, hx, litNil, v_neS, k5]); rw [hKn];clear hKn Kn;simp only [QV,reduceIte,reduceCtorEq,Nat.reduceEqDiff])
   ((repeat refine Ws ?_);refine Wf (by first|rfl|simp only [EV,zF,reduceIte]) ?_)
   (((repeat refine Ws ?_);refine W_skip ?_); simp only [QV,reduceIte,reduceCtorEq,Nat.reduceEqDiff])
   have F : Fin y := ⟨by have := hok.w; omega, by have := hok.s; omega, by have := hok.b; omega, by have := hok.c; omega, fun k hk => by have := hok.l k hk; omega⟩
   ((repeat refine Ws ?_);refine W_regionE T_ok ?_; intro Kn hKn)
   simp (maxSteps := 1000000) only [VL,VM,↓VG,reduceIte,reduceCtorEq,zA,zB,zC,zD,zE,zF,zG,zH,zI,zJ, PM_0]
   apply call_eq (f := 32) (fn := Tryz.f32) (by kernel_rfl) (by rfl)
   ·exact check_vm y _ F
   ((simp (maxSteps := 1000000) only [VL,VM,↓VG,reduceIte,reduceCtorEq,zA,zB,zC,zD,zE,zF,zG,zH,zI,zJ]); rw [hKn];clear hKn Kn;simp only [QV,reduceIte,reduceCtorEq,Nat.reduceEqDiff])
   ((repeat refine Ws ?_);refine W_regionE T_ok ?_; intro Kn hKn)
   by_cases h1 : hallErr y = 0
   ·have k6 : (hallErr y = 0) = True := eq_true h1
    have hres : rsRead s = (y, 0, 0) := by
     rw [hres0]
     unfold rsEnd
     rw [if_neg, if_pos h1]
     rintro (h | h)
     ·cases h
     ·rw [hlast] at h
      exact h hl
    ((simp (maxSteps := 1000000) only [VL,VM,↓VG,reduceIte,reduceCtorEq,zA,zB,zC,zD,zE,zF,zG,zH,zI,zJ, k6]); rw [hKn];clear hKn Kn;simp only [QV,reduceIte,reduceCtorEq,Nat.reduceEqDiff])
    ((repeat refine Ws ?_);refine Wf (by first|rfl|simp only [EV,zF,reduceIte]) ?_)
    (((repeat refine Ws ?_);refine W_skip ?_); simp only [QV,reduceIte,reduceCtorEq,Nat.reduceEqDiff])
    ((repeat refine Ws ?_);refine W_regionE T_ok ?_; intro Kn hKn)
    ((simp (maxSteps := 1000000) only [VL,VM,↓VG,reduceIte,reduceCtorEq,zA,zB,zC,zD,zE,zF,zG,zH,zI,zJ, PM_0, PM_s0]); rw [hKn];clear hKn Kn;simp only [QV,reduceIte,reduceCtorEq,Nat.reduceEqDiff])
    rw [hres]
    (repeat refine Ws ?_)
    refine W_ret ?_
    try simp only [thenQ, blockQ]
    refine own_retR rfl (by simp) rfl rfl rfl rfl
   ·have k6 : (hallErr y = 0) = False := eq_false h1
    have hres : rsRead s = (y0, 0, hallErr y) := by
     rw [hres0]
     unfold rsEnd
     rw [if_neg, if_neg h1]
     rintro (h | h)
     ·cases h
     ·rw [hlast] at h
      exact h hl
    ((simp (maxSteps := 1000000) only [VL,VM,↓VG,reduceIte,reduceCtorEq,zA,zB,zC,zD,zE,zF,zG,zH,zI,zJ, k6]); rw [hKn];clear hKn Kn;simp only [QV,reduceIte,reduceCtorEq,Nat.reduceEqDiff])
    ((repeat refine Ws ?_);refine Wt (by first|rfl|simp only [EV,zF,reduceIte]) ?_)
    ((repeat refine Ws ?_);refine W_regionE T_ok ?_; intro Kn hKn)
    ((simp (maxSteps := 1000000) only [VL,VM,↓VG,reduceIte,reduceCtorEq,zA,zB,zC,zD,zE,zF,zG,zH,zI,zJ, PM_0, PM_s0]); rw [hKn];clear hKn Kn;simp only [QV,reduceIte,reduceCtorEq,Nat.reduceEqDiff])
    rw [hres]
    refine W_nil4 ?_
    (repeat refine Ws ?_)
    refine W_ret ?_
    try simp only [thenQ, blockQ]
    refine own_retR rfl (by simp) rfl rfl rfl rfl
 have hlt2 : i < rows.length := by omega
 have k4 : ((i : Int) < ((rows.length - 1 : Nat) : Int)) = True := eq_true (by omega)
 have hx : (strsV rs)[i]? = some [.str (tx rows[i])] := strs_at (by rw [hrat i hlt, List.getElem?_eq_getElem hlt2])
 have hp := hpart rows[i] (List.getElem_mem hlt2)
 have hst := rsRun_step hlt2 hrun
 generalize rows[i] = row at hx hp hst
 ((repeat refine Ws ?_);refine W_regionE T_ok ?_; intro Kn hKn)
 ((simp (maxSteps := 1000000) only [VL,VM,↓VG,reduceIte,reduceCtorEq,zA,zB,zC,zD,zE,zF,zG,zH,zI,zJ, k4]); rw [hKn];clear hKn Kn;simp only [QV,reduceIte,reduceCtorEq,Nat.reduceEqDiff])
 ((repeat refine Ws ?_);refine Wt (by first|rfl|simp only [EV,zF,reduceIte]) ?_)
 (((repeat refine Ws ?_);refine W_skip ?_); simp only [QV,reduceIte,reduceCtorEq,Nat.reduceEqDiff])
 ((repeat refine Ws ?_);refine W_block ?_)
 ((repeat refine Ws ?_);refine W_regionE T_ok ?_; intro Kn hKn)
 ((simp (maxSteps := 1000000) only [VL,VM,↓VG,reduceIte,reduceCtorEq,zA,zB,zC,zD,zE,zF,zG,zH,zI,zJ, hx]); rw [hKn];clear hKn Kn;simp only [QV,reduceIte,reduceCtorEq,Nat.reduceEqDiff])
 ((repeat refine Ws ?_);refine W_regionE T_ok ?_; intro Kn hKn)
 simp (maxSteps := 1000000) only [VL,VM,↓VG,reduceIte,reduceCtorEq,zA,zB,zC,zD,zE,zF,zG,zH,zI,zJ]
 apply call_eq (f := 41) (fn := Tryz.f41) (by kernel_rfl) (by rfl)
 ·exact pparse2_v row _ (by omega)
 ((simp (maxSteps := 1000000) only [VL,VM,↓VG,reduceIte,reduceCtorEq,zA,zB,zC,zD,zE,zF,zG,zH,zI,zJ]); rw [hKn];clear hKn Kn;simp only [QV,reduceIte,reduceCtorEq,Nat.reduceEqDiff])
 (repeat refine Ws ?_)
 refine W_blockN (R := fun e' M' => (∃ y' b', rsStep i (y, b) row = some (y', b') ∧ M' = ⟨PM M.H y' [], M.lg ++ LG4 M.H.length⟩ ∧ Sub [(2, .ptr M.H.length 0), (5, strsW rows), (6, vi ((rows.length : Int) - 1)), (7, vb b'), (8, vi i), (12, vb true), (25, strsW rs), (26, vi ((rows.length - 1 : Nat) : Int)), (27, vi i)] e') ∨
  (∃ y', rsStep i (y, b) row = none ∧ M' = ⟨PM M.H y' [], M.lg ++ LG4 M.H.length⟩ ∧ Sub [(2, .ptr M.H.length 0), (8, vi i), (12, vb false)] e')) ?_ ?_
 rotate_left
 ·rintro e' M' (⟨y', b', hs1, rfl, g2, g5, g6, g7, g8, g12, g25, g26, g27, -⟩ | ⟨y', hs1, rfl, g2, g8, g12, -⟩)
  ·rw [hs1] at hst
   simp only [QV,reduceIte,reduceCtorEq,Nat.reduceEqDiff]
   ((repeat refine Ws ?_);refine W_regionE T_ok ?_; intro Kn hKn)
   ((simp (maxSteps := 1000000) only [VL,VM,↓VG,reduceIte,reduceCtorEq,zA,zB,zC,zD,zE,zF,zG,zH,zI,zJ, g12]); rw [hKn];clear hKn Kn;simp only [QV,reduceIte,reduceCtorEq,Nat.reduceEqDiff])
   ((repeat refine Ws ?_);refine Wf (by first|rfl|simp only [EV,zF,reduceIte]) ?_)
   (((repeat refine Ws ?_);refine W_skip ?_); simp only [QV,reduceIte,reduceCtorEq,Nat.reduceEqDiff])
   ((repeat refine Ws ?_);refine W_regionE T_ok ?_; intro Kn hKn)
   ((simp (maxSteps := 1000000) only [VL,VM,↓VG,reduceIte,reduceCtorEq,zA,zB,zC,zD,zE,zF,zG,zH,zI,zJ, g27, k3]); rw [hKn];clear hKn Kn;simp only [QV,reduceIte,reduceCtorEq,Nat.reduceEqDiff])
   refine LoopK.mk ⟨i + 1, y', b'⟩ (by simp only; omega) ⟨by simp only; omega, hst, rsStep_ok hs1 hok (by omega)⟩ ⟨?_, ?_, ?_, ?_, ?_, ?_, rfl, trivial⟩ rfl
   all_goals simp [get_cons, g2, g5, g6, g7, g25, g26]
  ·rw [hs1] at hst
   have hbad := rsRun_bad (n := rows.length - 1) (by omega) hst
   have hres : rsRead s = (y0, (i : Int) + 1, 2) := by rw [hread, hbad]
   simp only [QV,reduceIte,reduceCtorEq,Nat.reduceEqDiff]
   ((repeat refine Ws ?_);refine W_regionE T_ok ?_; intro Kn hKn)
   ((simp (maxSteps := 1000000) only [VL,VM,↓VG,reduceIte,reduceCtorEq,zA,zB,zC,zD,zE,zF,zG,zH,zI,zJ, g12]); rw [hKn];clear hKn Kn;simp only [QV,reduceIte,reduceCtorEq,Nat.reduceEqDiff])
   ((repeat refine Ws ?_);refine Wt (by first|rfl|simp only [EV,zF,reduceIte]) ?_)
   ((repeat refine Ws ?_);refine W_regionE T_ok ?_; intro Kn hKn)
   ((simp (maxSteps := 1000000) only [VL,VM,↓VG,reduceIte,reduceCtorEq,zA,zB,zC,zD,zE,zF,zG,zH,zI,zJ, g8, k3, g2, PM_0, PM_s0]); rw [hKn];clear hKn Kn;simp only [QV,reduceIte,reduceCtorEq,Nat.reduceEqDiff])
   rw [hres]
   refine W_nil4 ?_
   (repeat refine Ws ?_)
   refine W_ret ?_
   try simp only [thenQ, blockQ]
   refine own_retR rfl (by simp) rfl ?_ rfl rfl
   simp [get_cons, g2]
 cases hpr : parseR 8 row with
 | none =>
  have hs0 : rsStep i (y, b) row = none := by unfold rsStep; rw [hpr]
  have ew : parB row = false := by unfold parB; rw [hpr]
  ((repeat refine Ws ?_);refine W_regionE T_ok ?_; intro Kn hKn)
  ((simp (maxSteps := 1000000) only [VL,VM,↓VG,reduceIte,reduceCtorEq,zA,zB,zC,zD,zE,zF,zG,zH,zI,zJ, ew]); rw [hKn];clear hKn Kn;simp only [QV,reduceIte,reduceCtorEq,Nat.reduceEqDiff])
  ((repeat refine Ws ?_);refine Wt (by first|rfl|simp only [EV,zF,reduceIte]) ?_)
  ((repeat refine Ws ?_);refine W_regionE T_ok ?_; intro Kn hKn)
  simp (maxSteps := 1000000) only [VL,VM,↓VG,reduceIte,reduceCtorEq,zA,zB,zC,zD,zE,zF,zG,zH,zI,zJ]
  rw [hKn]
  exact ⟨rfl, rfl, .inr ⟨y, hs0, rfl, ⟨rfl, rfl, rfl, trivial⟩⟩⟩
 | some wl =>
 obtain ⟨w, l⟩ := wl
 have e1 : parB row = true := by unfold parB; rw [hpr]
 have e2 : parW row = w := by unfold parW; rw [hpr]
 have e3 : parL row = intsV l := by unfold parL; rw [hpr]
 have hll := parseR_len hpr
 have hs0 : rsStep i (y, b) row = if b = true then none else rsPut i y w l := by unfold rsStep; rw [hpr]
 rw [e1, e2, e3]
 cases b with
 | true =>
  ((repeat refine Ws ?_);refine W_regionE T_ok ?_; intro Kn hKn)
  ((simp (maxSteps := 1000000) only [VL,VM,↓VG,reduceIte,reduceCtorEq,zA,zB,zC,zD,zE,zF,zG,zH,zI,zJ]); rw [hKn];clear hKn Kn;simp only [QV,reduceIte,reduceCtorEq,Nat.reduceEqDiff])
  ((repeat refine Ws ?_);refine Wt (by first|rfl|simp only [EV,zF,reduceIte]) ?_)
  ((repeat refine Ws ?_);refine W_regionE T_ok ?_; intro Kn hKn)
  simp (maxSteps := 1000000) only [VL,VM,↓VG,reduceIte,reduceCtorEq,zA,zB,zC,zD,zE,zF,zG,zH,zI,zJ]
  rw [hKn]
  exact ⟨rfl, rfl, .inr ⟨y, hs0, rfl, ⟨rfl, rfl, rfl, trivial⟩⟩⟩
 | false =>
 rw [if_neg (by simp)] at hs0
 by_cases hh : w = wHall
 ·have kh : (w = wHall) = True := eq_true hh
  by_cases hi0 : i = 0
  rotate_left
  ·have ki : ((i : Int) = 0) = False := eq_false (by omega)
   ((repeat refine Ws ?_);refine W_regionE T_ok ?_; intro Kn hKn)
   ((simp (maxSteps := 1000000) only [VL,VM,↓VG,reduceIte,reduceCtorEq,zA,zB,zC,zD,zE,zF,zG,zH,zI,zJ, litHall, v_eqS, kh, ki, v_neTF]); rw [hKn];clear hKn Kn;simp only [QV,reduceIte,reduceCtorEq,Nat.reduceEqDiff])
   ((repeat refine Ws ?_);refine Wt (by first|rfl|simp only [EV,zF,reduceIte]) ?_)
   ((repeat refine Ws ?_);refine W_regionE T_ok ?_; intro Kn hKn)
   simp (maxSteps := 1000000) only [VL,VM,↓VG,reduceIte,reduceCtorEq,zA,zB,zC,zD,zE,zF,zG,zH,zI,zJ]
   rw [hKn]
   exact ⟨rfl, rfl, .inr ⟨y, hs0.trans (by rw [hh]; exact rsPut_hall hi0), rfl, ⟨rfl, rfl, rfl, trivial⟩⟩⟩
  ·have ki : ((i : Int) = 0) = True := eq_true (by omega)
   ((repeat refine Ws ?_);refine W_regionE T_ok ?_; intro Kn hKn)
   ((simp (maxSteps := 1000000) only [VL,VM,↓VG,reduceIte,reduceCtorEq,zA,zB,zC,zD,zE,zF,zG,zH,zI,zJ, litHall, v_eqS, kh, ki, v_neTT]); rw [hKn];clear hKn Kn;simp only [QV,reduceIte,reduceCtorEq,Nat.reduceEqDiff])
   ((repeat refine Ws ?_);refine Wf (by first|rfl|simp only [EV,zF,reduceIte]) ?_)
   ((repeat refine Ws ?_);refine W_regionE T_ok ?_; intro Kn hKn)
   ((simp (maxSteps := 1000000) only [VL,VM,↓VG,reduceIte,reduceCtorEq,zA,zB,zC,zD,zE,zF,zG,zH,zI,zJ, litHall, v_eqS, kh]); rw [hKn];clear hKn Kn;simp only [QV,reduceIte,reduceCtorEq,Nat.reduceEqDiff])
   ((repeat refine Ws ?_);refine Wt (by first|rfl|simp only [EV,zF,reduceIte]) ?_)
   by_cases hl4 : l.length = 4
   ·obtain ⟨a, b, c, d, rfl⟩ := four hl4
    ((repeat refine Ws ?_);refine W_regionE T_ok ?_; intro Kn hKn)
    ((simp (maxSteps := 1000000) only [VL,VM,↓VG,reduceIte,reduceCtorEq,zA,zB,zC,zD,zE,zF,zG,zH,zI,zJ]); rw [hKn];clear hKn Kn;simp only [QV,reduceIte,reduceCtorEq,Nat.reduceEqDiff])
    ((repeat refine Ws ?_);refine W_regionE T_ok ?_; intro Kn hKn)
    ((simp (maxSteps := 1000000) only [VL,VM,↓VG,reduceIte,reduceCtorEq,zA,zB,zC,zD,zE,zF,zG,zH,zI,zJ]); rw [hKn];clear hKn Kn;simp only [QV,reduceIte,reduceCtorEq,Nat.reduceEqDiff])
    ((repeat refine Ws ?_);refine Wt (by first|rfl|simp only [EV,zF,reduceIte]) ?_)
    (repeat refine Ws ?_)
    refine W_drawE T_ok [] (by kernel_rfl) (by kernel_rfl) ?_
    intro Kn hKn
    generalize hi : mkPlan _ = infs
    cbv at hi
    subst hi
    simp (maxSteps := 1000000) only [VL,VM,↓VG,reduceIte,reduceCtorEq,zA,zB,zC,zD,zE,zF,zG,zH,zI,zJ, PM_at, PM_0, PM_s0]
    rw [hKn]
    exact ⟨rfl, rfl, .inl ⟨haOf y [a, b, c, d], false, hs0.trans (by unfold rsPut; rw [if_pos hi0, if_pos ⟨hh, rfl⟩]), rfl, ⟨rfl, rfl, rfl, rfl, rfl, rfl, rfl, rfl, rfl, trivial⟩⟩⟩
   ·have kl : ((l.length : Int) = 4) = False := eq_false (by omega)
    ((repeat refine Ws ?_);refine W_regionE T_ok ?_; intro Kn hKn)
    ((simp (maxSteps := 1000000) only [VL,VM,↓VG,reduceIte,reduceCtorEq,zA,zB,zC,zD,zE,zF,zG,zH,zI,zJ, kl]); rw [hKn];clear hKn Kn;simp only [QV,reduceIte,reduceCtorEq,Nat.reduceEqDiff])
    ((repeat refine Ws ?_);refine W_regionE T_ok ?_; intro Kn hKn)
    ((simp (maxSteps := 1000000) only [VL,VM,↓VG,reduceIte,reduceCtorEq,zA,zB,zC,zD,zE,zF,zG,zH,zI,zJ]); rw [hKn];clear hKn Kn;simp only [QV,reduceIte,reduceCtorEq,Nat.reduceEqDiff])
    ((repeat refine Ws ?_);refine Wf (by first|rfl|simp only [EV,zF,reduceIte]) ?_)
    ((repeat refine Ws ?_);refine W_skip ?_)
    exact ⟨rfl, rfl, .inr ⟨y, hs0.trans (by unfold rsPut; rw [if_pos hi0, if_neg (fun e => hl4 e.2)]), rfl, ⟨rfl, rfl, rfl, trivial⟩⟩⟩
 have kh : (w = wHall) = False := eq_false hh
 by_cases hi0 : i = 0
 ·have ki : ((i : Int) = 0) = True := eq_true (by omega)
  ((repeat refine Ws ?_);refine W_regionE T_ok ?_; intro Kn hKn)
  ((simp (maxSteps := 1000000) only [VL,VM,↓VG,reduceIte,reduceCtorEq,zA,zB,zC,zD,zE,zF,zG,zH,zI,zJ, litHall, v_eqS, kh, ki, v_neFT]); rw [hKn];clear hKn Kn;simp only [QV,reduceIte,reduceCtorEq,Nat.reduceEqDiff])
  ((repeat refine Ws ?_);refine Wt (by first|rfl|simp only [EV,zF,reduceIte]) ?_)
  ((repeat refine Ws ?_);refine W_regionE T_ok ?_; intro Kn hKn)
  simp (maxSteps := 1000000) only [VL,VM,↓VG,reduceIte,reduceCtorEq,zA,zB,zC,zD,zE,zF,zG,zH,zI,zJ]
  rw [hKn]
  exact ⟨rfl, rfl, .inr ⟨y, hs0.trans (by unfold rsPut; rw [if_pos hi0, if_neg (fun e => hh e.1)]), rfl, ⟨rfl, rfl, rfl, trivial⟩⟩⟩
 have ki : ((i : Int) = 0) = False := eq_false (by omega)
 ((repeat refine Ws ?_);refine W_regionE T_ok ?_; intro Kn hKn)
 ((simp (maxSteps := 1000000) only [VL,VM,↓VG,reduceIte,reduceCtorEq,zA,zB,zC,zD,zE,zF,zG,zH,zI,zJ, litHall, v_eqS, kh, ki, v_neFF]); rw [hKn];clear hKn Kn;simp only [QV,reduceIte,reduceCtorEq,Nat.reduceEqDiff])
 ((repeat refine Ws ?_);refine Wf (by first|rfl|simp only [EV,zF,reduceIte]) ?_)
 ((repeat refine Ws ?_);refine W_regionE T_ok ?_; intro Kn hKn)
 ((simp (maxSteps := 1000000) only [VL,VM,↓VG,reduceIte,reduceCtorEq,zA,zB,zC,zD,zE,zF,zG,zH,zI,zJ, litHall, v_eqS, kh]); rw [hKn];clear hKn Kn;simp only [QV,reduceIte,reduceCtorEq,Nat.reduceEqDiff])
 ((repeat refine Ws ?_);refine Wf (by first|rfl|simp only [EV,zF,reduceIte]) ?_)
 by_cases he : w = wEnd
 ·have ke : (w = wEnd) = True := eq_true he
  rw [he, rsPut_end hi0] at hs0
  ((repeat refine Ws ?_);refine W_regionE T_ok ?_; intro Kn hKn)
  ((simp (maxSteps := 1000000) only [VL,VM,↓VG,reduceIte,reduceCtorEq,zA,zB,zC,zD,zE,zF,zG,zH,zI,zJ, litEnd, v_eqS, ke]); rw [hKn];clear hKn Kn;simp only [QV,reduceIte,reduceCtorEq,Nat.reduceEqDiff])
  ((repeat refine Ws ?_);refine Wt (by first|rfl|simp only [EV,zF,reduceIte]) ?_)
  by_cases hl1 : l.length = 1
  ·obtain ⟨a, rfl⟩ := one hl1
   by_cases ha : a = (y.kinds.length : Int)
   ·have ka : (a = (y.kinds.length : Int)) = True := eq_true ha
    (repeat refine Ws ?_)
    refine W_drawE T_ok [] (by kernel_rfl) (by kernel_rfl) ?_
    intro Kn hKn
    generalize hi : mkPlan _ = infs
    cbv at hi
    subst hi
    simp (maxSteps := 1000000) only [VL,VM,↓VG,reduceIte,reduceCtorEq,zA,zB,zC,zD,zE,zF,zG,zH,zI,zJ, PM_at, PM_0, ka]
    rw [hKn]
    exact ⟨rfl, rfl, .inl ⟨y, true, hs0.trans (if_pos ⟨rfl, ha⟩), rfl, ⟨rfl, rfl, rfl, rfl, rfl, rfl, rfl, rfl, rfl, trivial⟩⟩⟩
   ·have ka : (a = (y.kinds.length : Int)) = False := eq_false ha
    (repeat refine Ws ?_)
    refine W_drawE T_ok [] (by kernel_rfl) (by kernel_rfl) ?_
    intro Kn hKn
    generalize hi : mkPlan _ = infs
    cbv at hi
    subst hi
    simp (maxSteps := 1000000) only [VL,VM,↓VG,reduceIte,reduceCtorEq,zA,zB,zC,zD,zE,zF,zG,zH,zI,zJ, PM_at, PM_0, ka]
    rw [hKn]
    exact ⟨rfl, rfl, .inr ⟨y, hs0.trans (if_neg (fun e => ha e.2)), rfl, ⟨rfl, rfl, rfl, trivial⟩⟩⟩
  ·have kl : ((l.length : Int) = 1) = False := eq_false (by omega)
   (repeat refine Ws ?_)
   refine W_drawE T_ok [] (by kernel_rfl) (by kernel_rfl) ?_
   intro Kn hKn
   generalize hi : mkPlan _ = infs
   cbv at hi
   subst hi
   simp (maxSteps := 1000000) only [VL,VM,↓VG,reduceIte,reduceCtorEq,zA,zB,zC,zD,zE,zF,zG,zH,zI,zJ, PM_at, PM_0, kl]
   rw [hKn]
   exact ⟨rfl, rfl, .inr ⟨y, hs0.trans (if_neg (fun e => hl1 e.1)), rfl, ⟨rfl, rfl, rfl, trivial⟩⟩⟩
 have ke : (w = wEnd) = False := eq_false he
 rw [rsPut_1 hi0] at hs0
 ((repeat refine Ws ?_);refine W_regionE T_ok ?_; intro Kn hKn)
 ((simp (maxSteps := 1000000) only [VL,VM,↓VG,reduceIte,reduceCtorEq,zA,zB,zC,zD,zE,zF,zG,zH,zI,zJ, litEnd, v_eqS, ke]); rw [hKn];clear hKn Kn;simp only [QV,reduceIte,reduceCtorEq,Nat.reduceEqDiff])
 ((repeat refine Ws ?_);refine Wf (by first|rfl|simp only [EV,zF,reduceIte]) ?_)
 have tk := take_v y w l M.H [] (M.lg ++ LG4 M.H.length) (by simp) (by simp) (by simp) (by simp) ⟨by have := hok.w; omega, by have := hok.s; omega, by have := hok.b; omega, by have := hok.c; omega, hok.l⟩ (by omega) he
 ((repeat refine Ws ?_);refine W_regionE T_ok ?_; intro Kn hKn)
 simp (maxSteps := 1000000) only [VL,VM,↓VG,reduceIte,reduceCtorEq,zA,zB,zC,zD,zE,zF,zG,zH,zI,zJ]
 apply call_eq (f := 42) (fn := Tryz.f42) (by kernel_rfl) (by rfl)
 ·exact tk
 simp (maxSteps := 1000000) only [VL,VM,↓VG,reduceIte,reduceCtorEq,zA,zB,zC,zD,zE,zF,zG,zH,zI,zJ]
 rw [hKn]
 cases hpt : rsPut 1 y w l with
 | none => exact ⟨rfl, rfl, .inr ⟨y, hs0.trans hpt, rfl, ⟨rfl, rfl, rfl, trivial⟩⟩⟩
 | some p =>
  obtain ⟨y', b'⟩ := p
  have hb' := rsPut_goes he hpt
  subst hb'
  exact ⟨rfl, rfl, .inl ⟨y', false, hs0.trans hpt, rfl, ⟨rfl, rfl, rfl, rfl, rfl, rfl, rfl, rfl, rfl, trivial⟩⟩⟩
end Go.Proofs.YtominlgikchnmaaGreatDoor.Vm
