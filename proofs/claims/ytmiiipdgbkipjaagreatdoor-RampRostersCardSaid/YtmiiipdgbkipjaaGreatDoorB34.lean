/- A part of the proofs about the chapter of the ramps; it states no condition of its own. -/
import Derived.Test.YtmiiipdgbkipjaaGreatDoorB20
import Derived.Test.YtmiiipdgbkipjaaGreatDoorB26
import Derived.Test.YtmiiipdgbkipjaaGreatDoorB31
import Derived.Test.YtmiiipdgbkipjaaGreatDoorB33
set_option linter.unusedVariables false
set_option linter.unusedSimpArgs false
open Int renaming reduceLE → zA, reduceLT → zB, reduceToNat → zC, reduceNeg → zD
open Nat renaming reduceLT → zE, reduceEqDiff → zF, reduceAdd → zG, reduceSub → zH, reduceMul → zI, reduceLeDiff → zJ
/- The reference's Read, on values. (Vm) -/
namespace Go.Proofs.YtmiiipdgbkipjaaGreatDoor.Vm
open Go Go.Proofs
theorem litYard : (⟨#[121, 97, 114, 100]⟩ : ByteArray) = tx wYard := rfl
theorem litRamp : (⟨#[114, 97, 109, 112]⟩ : ByteArray) = tx wRamp := rfl
theorem litCart : (⟨#[99, 97, 114, 116]⟩ : ByteArray) = tx wCart := rfl
theorem litEnd : (⟨#[101, 110, 100]⟩ : ByteArray) = tx wEnd := rfl
theorem litNil : (⟨#[]⟩ : ByteArray) = tx [] := rfl
theorem W_blockN {P : Program} {cx : Cx} {e : Env} {M : Mem} {D : List Nat} {Q : PQ} {id : Nat} {c : Code} {R : Env → Mem → Prop} (h : WCode P cx c e M D (fun ex e' M' D' => ex = .normal ∧ D' = D ∧ R e' M')) (hR : ∀ e' M', R e' M' → Q .normal e' M' D) : WCode P cx (.block id c) e M D Q :=
 W_block (h.mono fun ex e' M' D' ⟨h1, h2, h3⟩ => by
  subst h1 h2
  exact hR e' M' h3)
def RMc (H : List VObj) (cs : List VV) (m k : Nat) (L : List VObj) : List VObj := H ++ .obj [.sf 0 [], .sf 0 [], vi 0] :: .obj cs :: .clm m 3 :: .clm k 6 :: L
abbrev yC (n : Nat) (y : Ya) : List VV := [.so (n + 2) 3 (y.ramps.map raP), .so (n + 3) 6 (y.carts.map ctP), vi y.sweep]
abbrev RM (H : List VObj) (y : Ya) (L : List VObj) : List VObj := RMc H (yC H.length y) y.ramps.length y.carts.length L
section
variable {H : List VObj} {cs cs' : List VV} {m k m' k' : Nat} {L : List VObj}
theorem RM_app (X : List VObj) : RMc H cs m k L ++ X = RMc H cs m k (L ++ X) := by simp [RMc]
theorem RM_0 : (RMc H cs m k L)[H.length]? = some (.obj [.sf 0 [], .sf 0 [], vi 0]) := by unfold RMc; rw [hget0]; rfl
theorem RM_1 : (RMc H cs m k L)[H.length + 1]? = some (.obj cs) := by unfold RMc; rw [hget]; rfl
theorem RM_2 : (RMc H cs m k L)[H.length + 2]? = some (.clm m 3) := by unfold RMc; rw [hget]; rfl
theorem RM_3 : (RMc H cs m k L)[H.length + 3]? = some (.clm k 6) := by unfold RMc; rw [hget]; rfl
theorem RM_s1 : (RMc H cs m k L).set (H.length + 1) (.obj cs') = RMc H cs' m k L := by unfold RMc; rw [hset]; rfl
theorem RM_s2 : (RMc H cs m k L).set (H.length + 2) (.clm m' 3) = RMc H cs m' k L := by unfold RMc; rw [hset]; rfl
theorem RM_s3 : (RMc H cs m k L).set (H.length + 3) (.clm k' 6) = RMc H cs m k' L := by unfold RMc; rw [hset]; rfl
theorem RM_s0 (o : VObj) : (RMc H cs m k L).set H.length o = H ++ o :: .obj cs :: .clm m 3 :: .clm k 6 :: L := by unfold RMc; rw [hset0]; rfl
theorem RM_s00 : (RMc H cs m k L).set H.length (.obj [.sf 0 [], .sf 0 [], vi 0]) = RMc H cs m k L := by rw [RM_s0]; rfl
theorem RM_len : (RMc H cs m k L).length = H.length + (4 + L.length) := by simp [RMc]; omega
end
theorem three {l : List Int} (h : l.length = 3) : ∃ a b c, l = [a, b, c] := by
 match l, h with
 | [a, b, c], _ => exact ⟨a, b, c, rfl⟩
theorem one {l : List Int} (h : l.length = 1) : ∃ a, l = [a] := by
 match l, h with
 | [a], _ => exact ⟨a, rfl⟩
theorem five {l : List Int} (h : 5 ≤ l.length) : ∃ a b c d g r, l = a :: b :: c :: d :: g :: r := by
 match l, h with
 | a :: b :: c :: d :: g :: r, _ => exact ⟨a, b, c, d, g, r, rfl⟩
def parW (s : By) : By := match parseR 7 s with
 | some (w, _) => w
 | none => []
def parL (s : By) : VV := match parseR 7 s with
 | some (_, l) => intsV l
 | none => .p (.sl 0 [])
def parB (s : By) : Bool := match parseR 7 s with
 | some _ => true
 | none => false
theorem rparse2_v (s : By) (M : Mem) (hs : s.length ≤ 100000) : VC Tryz.prog 39 [vs s] M (fun r M' => M' = M ∧ r = .tup [vs (parW s), parL s, vb (parB s)]) := by
 have h := rparse_v s M hs
 have e : parseT 7 s = .tup [vs (parW s), parL s, vb (parB s)] := by
  unfold parseT parW parL parB
  cases parseR 7 s <;> rfl
 rw [e] at h
 exact h
structure RsS where
 i : Nat
 y : Ya
 b : Bool
 L : List VObj
abbrev rsReadV (x : Ya × Int × Int) : VV := .tup [yardV x.1, vi x.2.1, vi x.2.2]
theorem own_retR {f : Nat} {fn : Func} {M : Mem} {L : List VObj} {X : List (Nat × Nat)} {e : Env} {y : Ya} {a b : Int} (h1 : fn.results.toList = [.cell 2 25, .tmp 3, .tmp 4]) (hX : ∀ e ∈ X, M.H.length ≤ e.1) (ho : L[0]? = some (.obj (yardC y))) (h2 : get e 2 = .ptr M.H.length 0) (h3 : get e 3 = vi a) (h4 : get e 4 = vi b) :
  ownQ T f fn M (fun r M' => M' = M ∧ r = rsReadV (y, a, b)) .ret e ⟨M.H ++ L, M.lg ++ X⟩ [] := by
 have hv : vresL T e ⟨M.H ++ L, M.lg ++ X⟩ fn.results.toList = some [yardV y, vi a, vi b] := by
  rw [h1]
  simp only [vresL, h2, h3, h4, vload, t_yard]
  rw [show (M.H ++ L)[M.H.length]? = some (.obj (yardC y)) by rw [List.getElem?_append_right (Nat.le_refl _), Nat.sub_self]; exact ho]
  rfl
 refine ⟨.inr rfl, rfl, ⟨X, rfl, hX⟩, M.H, L, rfl, rfl, _, hv, _, rfl, ?_, rfl, ?_⟩
 ·intro x hx
  simp [vtup, frz, frzL, refs, refsL] at hx
 ·simp [vtup, frz, frzL]
set_option maxRecDepth 8000 in
set_option maxHeartbeats 4000000 in
theorem rread_v (s : By) (M : Mem) (hs : s.length ≤ 9223372036854775807) : VC Tryz.prog 13 [vs s] M (fun r M' => M' = M ∧ r = rsReadV (rsRead s)) := by
 refine VC_own' T_ok (f := 13) (fn := Tryz.f13) (by kernel_rfl) rfl Tryz.ntmps13 (by rfl) (by rfl) ?_
 ((repeat refine Ws ?_);refine W_regionE T_ok ?_; intro Kn hKn)
 ((simp (maxSteps := 1000000) only [VL,VM,↓VG,reduceIte,reduceCtorEq,zA,zB,zC,zD,zE,zF,zG,zH,zI,zJ]); rw [hKn];clear hKn Kn;simp only [QV,reduceIte,reduceCtorEq,Nat.reduceEqDiff])
 ((repeat refine Ws ?_);refine W_regionE T_ok ?_; intro Kn hKn)
 rcases Nat.lt_or_ge 1500 s.length with h15 | h15
 ·have k1 : ((1500 : Int) < (s.length : Int)) = True := eq_true (by omega)
  ((simp (maxSteps := 1000000) only [VL,VM,↓VG,reduceIte,reduceCtorEq,zA,zB,zC,zD,zE,zF,zG,zH,zI,zJ, tx_size, k1]); rw [hKn];clear hKn Kn;simp only [QV,reduceIte,reduceCtorEq,Nat.reduceEqDiff])
  ((repeat refine Ws ?_);refine Wt (by first|rfl|simp only [EV,zF,reduceIte]) ?_)
  ((repeat refine Ws ?_);refine W_regionE T_ok ?_; intro Kn hKn)
  ((simp (maxSteps := 1000000) only [VL,VM,↓VG,reduceIte,reduceCtorEq,zA,zB,zC,zD,zE,zF,zG,zH,zI,zJ]); rw [hKn];clear hKn Kn;simp only [QV,reduceIte,reduceCtorEq,Nat.reduceEqDiff])
  rw [show rsRead s = (y0, 0, 10) by unfold rsRead; rw [if_pos h15]]
  refine W_nilobj (id := M.H.length) (off := 0) (k := 3) (k0 := 0) (cs := [.sf 0 [], .sf 0 [], vi 0]) (by simp) rfl ?_
  refine W_nilobj (id := M.H.length) (off := 1) (k := 6) (k0 := 0) (cs := [.p (.sl 3 []), .sf 0 [], vi 0]) (by simp) rfl ?_
  refine W_eqM (M' := ⟨M.H ++ [.obj (yardC y0)], M.lg ++ []⟩) (by simp [y0]) ?_
  (repeat refine Ws ?_)
  refine W_ret ?_
  try simp only [thenQ, blockQ]
  refine own_retR rfl (by simp) rfl rfl rfl rfl
 have k1 : ((1500 : Int) < (s.length : Int)) = False := eq_false (by omega)
 ((simp (maxSteps := 1000000) only [VL,VM,↓VG,reduceIte,reduceCtorEq,zA,zB,zC,zD,zE,zF,zG,zH,zI,zJ, tx_size, k1]); rw [hKn];clear hKn Kn;simp only [QV,reduceIte,reduceCtorEq,Nat.reduceEqDiff])
 ((repeat refine Ws ?_);refine Wf (by first|rfl|simp only [EV,zF,reduceIte]) ?_)
 (((repeat refine Ws ?_);refine W_skip ?_); simp only [QV,reduceIte,reduceCtorEq,Nat.reduceEqDiff])
 have hlen := cutL_len 10 s
 have hpos := cutL_pos 10 s
 have hpart := cutL_part 10 s
 ((repeat refine Ws ?_);refine W_regionE T_ok ?_; intro Kn hKn)
 simp (maxSteps := 1000000) only [VL,VM,↓VG,reduceIte,reduceCtorEq,zA,zB,zC,zD,zE,zF,zG,zH,zI,zJ]
 apply call_eq (f := 38) (fn := Tryz.f38) (by kernel_rfl) (by rfl)
 ·exact rsplit_v 10 s _ (by omega)
 ((simp (maxSteps := 1000000) only [VL,VM,↓VG,reduceIte,reduceCtorEq,zA,zB,zC,zD,zE,zF,zG,zH,zI,zJ]); rw [hKn];clear hKn Kn;simp only [QV,reduceIte,reduceCtorEq,Nat.reduceEqDiff])
 have hread : rsRead s = match rsRun 0 (y0, false) ((cutL 10 s).take ((cutL 10 s).length - 1)) with
  | .inl i => (y0, (i : Int) + 1, 2)
  | .inr st => rsEnd (cutL 10 s) st := by
  unfold rsRead
  rw [if_neg (by omega)]
  rfl
 generalize cutL 10 s = rows at hlen hpos hpart hread ⊢
 ((repeat refine Ws ?_);refine W_regionE T_ok ?_; intro Kn hKn)
 ((simp (maxSteps := 1000000) only [VL,VM,↓VG,reduceIte,reduceCtorEq,zA,zB,zC,zD,zE,zF,zG,zH,zI,zJ]); rw [hKn];clear hKn Kn;simp only [QV,reduceIte,reduceCtorEq,Nat.reduceEqDiff])
 (repeat refine Ws ?_)
 refine W_ghost (id := M.H.length + 1) (off := 0) (k := 3) (k0 := 0) (cs := [.sf 0 [], .sf 0 [], vi 0]) (by simp) rfl ?_
 refine W_ghost (id := M.H.length + 1) (off := 1) (k := 6) (k0 := 0) (cs := [.so (M.H.length + 2) 3 [], .sf 0 [], vi 0]) (by simp) rfl ?_
 refine W_eqM (M' := ⟨RM M.H y0 [], M.lg ++ [(M.H.length + 1, M.H.length + 2), (M.H.length + 1, M.H.length + 3)]⟩) (by simp [RMc, y0]) ?_
 ((repeat refine Ws ?_);refine W_regionE T_ok ?_; intro Kn hKn)
 ((simp (maxSteps := 1000000) only [VL,VM,↓VG,reduceIte,reduceCtorEq,zA,zB,zC,zD,zE,zF,zG,zH,zI,zJ]); rw [hKn];clear hKn Kn;simp only [QV,reduceIte,reduceCtorEq,Nat.reduceEqDiff])
 ((repeat refine Ws ?_);refine W_regionE T_ok ?_; intro Kn hKn)
 ((simp (maxSteps := 1000000) only [VL,VM,↓VG,reduceIte,reduceCtorEq,zA,zB,zC,zD,zE,zF,zG,zH,zI,zJ]); rw [hKn];clear hKn Kn;simp only [QV,reduceIte,reduceCtorEq,Nat.reduceEqDiff])
 ((repeat refine Ws ?_);refine W_block ?_; (repeat refine Ws ?_)); refine W_loopS (fun z : RsS => [(2, .ptr M.H.length 0), (5, strsW rows), (6, .ptr (M.H.length + 1) 0), (7, vb z.b), (8, vi z.i)]) (fun z => ⟨RM M.H z.y z.L, M.lg ++ [(M.H.length + 1, M.H.length + 2), (M.H.length + 1, M.H.length + 3)]⟩) (fun z => rows.length - z.i) (fun z => z.i ≤ rows.length - 1 ∧ rsRun 0 (y0, false) (rows.take z.i) = .inr (z.y, z.b) ∧ RsOk z.i z.y) ⟨0, y0, false, []⟩ ⟨Nat.zero_le _, rfl, ⟨Nat.le_refl _, Nat.le_refl _, by simp [y0]⟩⟩ ⟨rfl, rfl, rfl, rfl, rfl, trivial⟩ rfl ?_
 rintro ⟨i, y, b, L⟩ ⟨hi, hrun, hok⟩
 simp only at hi hrun hok
 have k2 : -9223372036854775808 ≤ (rows.length : Int) - 1 ∧ (rows.length : Int) - 1 < 9223372036854775808 := by omega
 have k3 : -9223372036854775808 ≤ (i : Int) + 1 ∧ (i : Int) + 1 < 9223372036854775808 := by omega
 rcases Nat.lt_or_ge i (rows.length - 1) with hlt | hge
 rotate_left
 ·obtain rfl : i = rows.length - 1 := by omega
  have hres0 : rsRead s = rsEnd rows (y, b) := by rw [hread, hrun]
  have k4 : (((rows.length - 1 : Nat) : Int) < (rows.length : Int) - 1) = False := eq_false (by omega)
  have hlt2 : rows.length - 1 < rows.length := by omega
  have hx := strs_at (List.getElem?_eq_getElem hlt2)
  have hidx : ((rows.length : Int) - 1).toNat = rows.length - 1 := by omega
  have hge0 : (0 ≤ (rows.length : Int) - 1) = True := eq_true (by omega)
  have hlast : rows.getD (rows.length - 1) [] = rows[rows.length - 1] := by rw [List.getD_eq_getElem?_getD, List.getElem?_eq_getElem hlt2]; rfl
  generalize rows[rows.length - 1] = last at hx hlast
  ((repeat refine Ws ?_);refine W_regionE T_ok ?_; intro Kn hKn)
  ((simp (maxSteps := 1000000) only [VL,VM,↓VG,reduceIte,reduceCtorEq,zA,zB,zC,zD,zE,zF,zG,zH,zI,zJ, strs_len, k2, k4]); rw [hKn];clear hKn Kn;simp only [QV,reduceIte,reduceCtorEq,Nat.reduceEqDiff])
  ((repeat refine Ws ?_);refine Wf (by first|rfl|simp only [EV,zF,reduceIte]) ?_)
  (((repeat refine Ws ?_);refine W_exit ?_); simp only [QV,reduceIte,reduceCtorEq,Nat.reduceEqDiff])
  ((repeat refine Ws ?_);refine W_regionE T_ok ?_; intro Kn hKn)
  cases b with
  | false =>
   have hres : rsRead s = (y0, (rows.length : Int), 2) := by
    rw [hres0]
    unfold rsEnd
    rw [if_pos (.inl rfl)]
   ((simp (maxSteps := 1000000) only [VL,VM,↓VG,reduceIte,reduceCtorEq,zA,zB,zC,zD,zE,zF,zG,zH,zI,zJ]); rw [hKn];clear hKn Kn;simp only [QV,reduceIte,reduceCtorEq,Nat.reduceEqDiff])
   ((repeat refine Ws ?_);refine Wt (by first|rfl|simp only [EV,zF,reduceIte]) ?_)
   ((repeat refine Ws ?_);refine W_regionE T_ok ?_; intro Kn hKn)
   ((simp (maxSteps := 1000000) only [VL,VM,↓VG,reduceIte,reduceCtorEq,zA,zB,zC,zD,zE,zF,zG,zH,zI,zJ, strs_len, RM_0, RM_s00]); rw [hKn];clear hKn Kn;simp only [QV,reduceIte,reduceCtorEq,Nat.reduceEqDiff])
   rw [hres]
   refine W_nilobj (id := M.H.length) (off := 0) (k := 3) (k0 := 0) (cs := [.sf 0 [], .sf 0 [], vi 0]) RM_0 rfl ?_
   refine W_eqM (M' := ⟨M.H ++ .obj [.p (.sl 3 []), .sf 0 [], vi 0] :: .obj (yC M.H.length y) :: .clm y.ramps.length 3 :: .clm y.carts.length 6 :: L, M.lg ++ [(M.H.length + 1, M.H.length + 2), (M.H.length + 1, M.H.length + 3)]⟩) (by rw [RM_s0]; rfl) ?_
   refine W_nilobj (id := M.H.length) (off := 1) (k := 6) (k0 := 0) (cs := [.p (.sl 3 []), .sf 0 [], vi 0]) (by simp) rfl ?_
   refine W_eqM (M' := ⟨M.H ++ .obj (yardC y0) :: .obj (yC M.H.length y) :: .clm y.ramps.length 3 :: .clm y.carts.length 6 :: L, M.lg ++ [(M.H.length + 1, M.H.length + 2), (M.H.length + 1, M.H.length + 3)]⟩) (by simp [y0]) ?_
   (repeat refine Ws ?_)
   refine W_ret ?_
   try simp only [thenQ, blockQ]
   refine own_retR rfl (by simp) rfl rfl rfl rfl
  | true =>
   by_cases hl : last = []
   rotate_left
   ·have k5 : (last = []) = False := eq_false hl
    have hres : rsRead s = (y0, (rows.length : Int), 2) := by
     rw [hres0]
     unfold rsEnd
     rw [if_pos (.inr (by rw [hlast]; exact hl))]
    ((simp (maxSteps := 1000000) only [VL,VM,↓VG,reduceIte,reduceCtorEq,zA,zB,zC,zD,zE,zF,zG,zH,zI,zJ, strs_len, k2, hidx, hge0, hx, litNil, v_neS, k5]); rw [hKn];clear hKn Kn;simp only [QV,reduceIte,reduceCtorEq,Nat.reduceEqDiff])
    ((repeat refine Ws ?_);refine Wt (by first|rfl|simp only [EV,zF,reduceIte]) ?_)
    ((repeat refine Ws ?_);refine W_regionE T_ok ?_; intro Kn hKn)
    ((simp (maxSteps := 1000000) only [VL,VM,↓VG,reduceIte,reduceCtorEq,zA,zB,zC,zD,zE,zF,zG,zH,zI,zJ, strs_len, RM_0, RM_s00]); rw [hKn];clear hKn Kn;simp only [QV,reduceIte,reduceCtorEq,Nat.reduceEqDiff])
    rw [hres]
    refine W_nilobj (id := M.H.length) (off := 0) (k := 3) (k0 := 0) (cs := [.sf 0 [], .sf 0 [], vi 0]) RM_0 rfl ?_
    refine W_eqM (M' := ⟨M.H ++ .obj [.p (.sl 3 []), .sf 0 [], vi 0] :: .obj (yC M.H.length y) :: .clm y.ramps.length 3 :: .clm y.carts.length 6 :: L, M.lg ++ [(M.H.length + 1, M.H.length + 2), (M.H.length + 1, M.H.length + 3)]⟩) (by rw [RM_s0]; rfl) ?_
    refine W_nilobj (id := M.H.length) (off := 1) (k := 6) (k0 := 0) (cs := [.p (.sl 3 []), .sf 0 [], vi 0]) (by simp) rfl ?_
    refine W_eqM (M' := ⟨M.H ++ .obj (yardC y0) :: .obj (yC M.H.length y) :: .clm y.ramps.length 3 :: .clm y.carts.length 6 :: L, M.lg ++ [(M.H.length + 1, M.H.length + 2), (M.H.length + 1, M.H.length + 3)]⟩) (by simp [y0]) ?_
    (repeat refine Ws ?_)
    refine W_ret ?_
    try simp only [thenQ, blockQ]
    refine own_retR rfl (by simp) rfl rfl rfl rfl
   have k5 : (last = []) = True := eq_true hl
   ((simp (maxSteps := 1000000) only [VL,VM,↓VG,reduceIte,reduceCtorEq,zA,zB,zC,zD,zE,zF,zG,zH,zI,zJ, strs_len, k2, hidx, hge0, hx, litNil, v_neS, k5]); rw [hKn];clear hKn Kn;simp only [QV,reduceIte,reduceCtorEq,Nat.reduceEqDiff])
   ((repeat refine Ws ?_);refine Wf (by first|rfl|simp only [EV,zF,reduceIte]) ?_)
   (((repeat refine Ws ?_);refine W_skip ?_); simp only [QV,reduceIte,reduceCtorEq,Nat.reduceEqDiff])
   have o1 := hok.r
   have o2 := hok.c
   ((repeat refine Ws ?_);refine W_regionE T_ok ?_; intro Kn hKn)
   simp (maxSteps := 1000000) only [VL,VM,↓VG,reduceIte,reduceCtorEq,zA,zB,zC,zD,zE,zF,zG,zH,zI,zJ, RM_1]
   apply call_eq (f := 33) (fn := Tryz.f33) (by kernel_rfl) (by rfl)
   ·exact rcheck_v y _ (by omega) (by omega) (fun c hc => Nat.le_trans (hok.l c hc) (by omega))
   ((simp (maxSteps := 1000000) only [VL,VM,↓VG,reduceIte,reduceCtorEq,zA,zB,zC,zD,zE,zF,zG,zH,zI,zJ]); rw [hKn];clear hKn Kn;simp only [QV,reduceIte,reduceCtorEq,Nat.reduceEqDiff])
   ((repeat refine Ws ?_);refine W_regionE T_ok ?_; intro Kn hKn)
   by_cases h1 : yErr y = 0
   ·have k6 : (yErr y = 0) = True := eq_true h1
    have hres : rsRead s = (y, 0, 0) := by
     rw [hres0]
     unfold rsEnd
     rw [if_neg, if_pos h1]
     rintro (h | h)
     ·cases h
     ·rw [hlast] at h
      exact h hl
    ((simp (maxSteps := 1000000) only [VL,VM,↓VG,reduceIte,reduceCtorEq,zA,zB,zC,zD,zE,zF,zG,zH,zI,zJ, k6]); rw [hKn];clear hKn Kn;simp only [QV,reduceIte,reduceCtorEq,Nat.reduceEqDiff])
    ((repeat refine Ws ?_);refine Wf (by first|rfl|simp only [EV,zF,reduceIte]) ?_)
    (((repeat refine Ws ?_);refine W_skip ?_); simp only [QV,reduceIte,reduceCtorEq,Nat.reduceEqDiff])
    ((repeat refine Ws ?_);refine W_regionE T_ok ?_; intro Kn hKn)
    ((simp (maxSteps := 1000000) only [VL,VM,↓VG,reduceIte,reduceCtorEq,zA,zB,zC,zD,zE,zF,zG,zH,zI,zJ, RM_0, RM_1, RM_s0]); rw [hKn];clear hKn Kn;simp only [QV,reduceIte,reduceCtorEq,Nat.reduceEqDiff])
    rw [hres]
    (repeat refine Ws ?_)
    refine W_ret ?_
    try simp only [thenQ, blockQ]
    refine own_retR rfl (by simp) rfl rfl rfl rfl
   ·have k6 : (yErr y = 0) = False := eq_false h1
    have hres : rsRead s = (y0, 0, yErr y) := by
     rw [hres0]
     unfold rsEnd
     rw [if_neg, if_neg h1]
     rintro (h | h)
     ·cases h
     ·rw [hlast] at h
      exact h hl
    ((simp (maxSteps := 1000000) only [VL,VM,↓VG,reduceIte,reduceCtorEq,zA,zB,zC,zD,zE,zF,zG,zH,zI,zJ, k6]); rw [hKn];clear hKn Kn;simp only [QV,reduceIte,reduceCtorEq,Nat.reduceEqDiff])
    ((repeat refine Ws ?_);refine Wt (by first|rfl|simp only [EV,zF,reduceIte]) ?_)
    ((repeat refine Ws ?_);refine W_regionE T_ok ?_; intro Kn hKn)
    ((simp (maxSteps := 1000000) only [VL,VM,↓VG,reduceIte,reduceCtorEq,zA,zB,zC,zD,zE,zF,zG,zH,zI,zJ, RM_0, RM_s00]); rw [hKn];clear hKn Kn;simp only [QV,reduceIte,reduceCtorEq,Nat.reduceEqDiff])
    rw [hres]
    refine W_nilobj (id := M.H.length) (off := 0) (k := 3) (k0 := 0) (cs := [.sf 0 [], .sf 0 [], vi 0]) RM_0 rfl ?_
    refine W_eqM (M' := ⟨M.H ++ .obj [.p (.sl 3 []), .sf 0 [], vi 0] :: .obj (yC M.H.length y) :: .clm y.ramps.length 3 :: .clm y.carts.length 6 :: L, M.lg ++ [(M.H.length + 1, M.H.length + 2), (M.H.length + 1, M.H.length + 3)]⟩) (by rw [RM_s0]; rfl) ?_
    refine W_nilobj (id := M.H.length) (off := 1) (k := 6) (k0 := 0) (cs := [.p (.sl 3 []), .sf 0 [], vi 0]) (by simp) rfl ?_
    refine W_eqM (M' := ⟨M.H ++ .obj (yardC y0) :: .obj (yC M.H.length y) :: .clm y.ramps.length 3 :: .clm y.carts.length 6 :: L, M.lg ++ [(M.H.length + 1, M.H.length + 2), (M.H.length + 1, M.H.length + 3)]⟩) (by simp [y0]) ?_
    (repeat refine Ws ?_)
    refine W_ret ?_
    try simp only [thenQ, blockQ]
    refine own_retR rfl (by simp) rfl rfl rfl rfl
 have hlt2 : i < rows.length := by omega
 have k4 : ((i : Int) < (rows.length : Int) - 1) = True := eq_true (by omega)
 have hx := strs_at (List.getElem?_eq_getElem hlt2)
 have hp := hpart rows[i] (List.getElem_mem hlt2)
 have hst := rsRun_step hlt2 hrun
 generalize rows[i] = row at hx hp hst
 ((repeat refine Ws ?_);refine W_regionE T_ok ?_; intro Kn hKn)
 ((simp (maxSteps := 1000000) only [VL,VM,↓VG,reduceIte,reduceCtorEq,zA,zB,zC,zD,zE,zF,zG,zH,zI,zJ, strs_len, k2, k4]); rw [hKn];clear hKn Kn;simp only [QV,reduceIte,reduceCtorEq,Nat.reduceEqDiff])
 ((repeat refine Ws ?_);refine Wt (by first|rfl|simp only [EV,zF,reduceIte]) ?_)
 (((repeat refine Ws ?_);refine W_skip ?_); simp only [QV,reduceIte,reduceCtorEq,Nat.reduceEqDiff])
 ((repeat refine Ws ?_);refine W_block ?_)
 ((repeat refine Ws ?_);refine W_regionE T_ok ?_; intro Kn hKn)
 simp (maxSteps := 1000000) only [VL,VM,↓VG,reduceIte,reduceCtorEq,zA,zB,zC,zD,zE,zF,zG,zH,zI,zJ, hx]
 apply call_eq (f := 39) (fn := Tryz.f39) (by kernel_rfl) (by rfl)
 ·exact rparse2_v row _ (by omega)
 ((simp (maxSteps := 1000000) only [VL,VM,↓VG,reduceIte,reduceCtorEq,zA,zB,zC,zD,zE,zF,zG,zH,zI,zJ]); rw [hKn];clear hKn Kn;simp only [QV,reduceIte,reduceCtorEq,Nat.reduceEqDiff])
 (repeat refine Ws ?_)
 refine W_blockN (R := fun e' M' => (∃ y' b' L', rsStep i (y, b) row = some (y', b') ∧ M' = ⟨RM M.H y' L', M.lg ++ [(M.H.length + 1, M.H.length + 2), (M.H.length + 1, M.H.length + 3)]⟩ ∧ Sub [(2, .ptr M.H.length 0), (5, strsW rows), (6, .ptr (M.H.length + 1) 0), (7, vb b'), (8, vi i), (11, vb true)] e') ∨
  (∃ y' L', rsStep i (y, b) row = none ∧ M' = ⟨RM M.H y' L', M.lg ++ [(M.H.length + 1, M.H.length + 2), (M.H.length + 1, M.H.length + 3)]⟩ ∧ Sub [(2, .ptr M.H.length 0), (8, vi i), (11, vb false)] e')) ?_ ?_
 rotate_left
 ·rintro e' M' (⟨y', b', L', hs1, rfl, h2, h5, h6, h7, h8, h11, -⟩ | ⟨y', L', hs1, rfl, h2, h8, h11, -⟩)
  ·rw [hs1] at hst
   simp only [QV,reduceIte,reduceCtorEq,Nat.reduceEqDiff]
   ((repeat refine Ws ?_);refine W_regionE T_ok ?_; intro Kn hKn)
   ((simp (maxSteps := 1000000) only [VL,VM,↓VG,reduceIte,reduceCtorEq,zA,zB,zC,zD,zE,zF,zG,zH,zI,zJ, h11]); rw [hKn];clear hKn Kn;simp only [QV,reduceIte,reduceCtorEq,Nat.reduceEqDiff])
   ((repeat refine Ws ?_);refine Wf (by first|rfl|simp only [EV,zF,reduceIte]) ?_)
   (((repeat refine Ws ?_);refine W_skip ?_); simp only [QV,reduceIte,reduceCtorEq,Nat.reduceEqDiff])
   ((repeat refine Ws ?_);refine W_regionE T_ok ?_; intro Kn hKn)
   ((simp (maxSteps := 1000000) only [VL,VM,↓VG,reduceIte,reduceCtorEq,zA,zB,zC,zD,zE,zF,zG,zH,zI,zJ, h8, k3]); rw [hKn];clear hKn Kn;simp only [QV,reduceIte,reduceCtorEq,Nat.reduceEqDiff])
   refine LoopK.mk ⟨i + 1, y', b', L'⟩ (by simp only; omega) ⟨by simp only; omega, hst, rsStep_ok hs1 hok (by omega)⟩ ⟨?_, ?_, ?_, ?_, rfl, trivial⟩ rfl
   ·simp [get_cons, h2]
   ·simp [get_cons, h5]
   ·simp [get_cons, h6]
   ·simp [get_cons, h7]
  ·rw [hs1] at hst
   have hbad := rsRun_bad (n := rows.length - 1) (by omega) hst
   have hres : rsRead s = (y0, (i : Int) + 1, 2) := by rw [hread, hbad]
   simp only [QV,reduceIte,reduceCtorEq,Nat.reduceEqDiff]
   ((repeat refine Ws ?_);refine W_regionE T_ok ?_; intro Kn hKn)
   ((simp (maxSteps := 1000000) only [VL,VM,↓VG,reduceIte,reduceCtorEq,zA,zB,zC,zD,zE,zF,zG,zH,zI,zJ, h11]); rw [hKn];clear hKn Kn;simp only [QV,reduceIte,reduceCtorEq,Nat.reduceEqDiff])
   ((repeat refine Ws ?_);refine Wt (by first|rfl|simp only [EV,zF,reduceIte]) ?_)
   ((repeat refine Ws ?_);refine W_regionE T_ok ?_; intro Kn hKn)
   ((simp (maxSteps := 1000000) only [VL,VM,↓VG,reduceIte,reduceCtorEq,zA,zB,zC,zD,zE,zF,zG,zH,zI,zJ, h8, k3, h2, RM_0, RM_s00]); rw [hKn];clear hKn Kn;simp only [QV,reduceIte,reduceCtorEq,Nat.reduceEqDiff])
   rw [hres]
   refine W_nilobj (id := M.H.length) (off := 0) (k := 3) (k0 := 0) (cs := [.sf 0 [], .sf 0 [], vi 0]) RM_0 rfl ?_
   refine W_eqM (M' := ⟨M.H ++ .obj [.p (.sl 3 []), .sf 0 [], vi 0] :: .obj (yC M.H.length y') :: .clm y'.ramps.length 3 :: .clm y'.carts.length 6 :: L', M.lg ++ [(M.H.length + 1, M.H.length + 2), (M.H.length + 1, M.H.length + 3)]⟩) (by rw [RM_s0]; rfl) ?_
   refine W_nilobj (id := M.H.length) (off := 1) (k := 6) (k0 := 0) (cs := [.p (.sl 3 []), .sf 0 [], vi 0]) (by simp) rfl ?_
   refine W_eqM (M' := ⟨M.H ++ .obj (yardC y0) :: .obj (yC M.H.length y') :: .clm y'.ramps.length 3 :: .clm y'.carts.length 6 :: L', M.lg ++ [(M.H.length + 1, M.H.length + 2), (M.H.length + 1, M.H.length + 3)]⟩) (by simp [y0]) ?_
   (repeat refine Ws ?_)
   refine W_ret ?_
   try simp only [thenQ, blockQ]
   refine own_retR rfl (by simp) rfl ?_ rfl rfl
   simp [get_cons, h2]
 cases hpr : parseR 7 row with
 | none =>
  have hB : parB row = false := by unfold parB; rw [hpr]
  have hs0 : rsStep i (y, b) row = none := by unfold rsStep; rw [hpr]
  rw [hB]
  ((repeat refine Ws ?_);refine W_regionE T_ok ?_; intro Kn hKn)
  ((simp (maxSteps := 1000000) only [VL,VM,↓VG,reduceIte,reduceCtorEq,zA,zB,zC,zD,zE,zF,zG,zH,zI,zJ]); rw [hKn];clear hKn Kn;simp only [QV,reduceIte,reduceCtorEq,Nat.reduceEqDiff])
  ((repeat refine Ws ?_);refine Wt (by first|rfl|simp only [EV,zF,reduceIte]) ?_)
  ((repeat refine Ws ?_);refine W_regionE T_ok ?_; intro Kn hKn)
  simp (maxSteps := 1000000) only [VL,VM,↓VG,reduceIte,reduceCtorEq,zA,zB,zC,zD,zE,zF,zG,zH,zI,zJ]
  rw [hKn]
  exact ⟨rfl, rfl, .inr ⟨y, L, hs0, rfl, ⟨rfl, rfl, rfl, trivial⟩⟩⟩
 | some wl =>
  obtain ⟨w, l⟩ := wl
  have hB : parB row = true := by unfold parB; rw [hpr]
  have hW : parW row = w := by unfold parW; rw [hpr]
  have hLv : parL row = intsV l := by unfold parL; rw [hpr]
  have hll := parseR_len hpr
  rw [hB, hW, hLv]
  cases b with
  | true =>
   have hs0 : rsStep i (y, true) row = none := by unfold rsStep; rw [hpr]; rfl
   ((repeat refine Ws ?_);refine W_regionE T_ok ?_; intro Kn hKn)
   ((simp (maxSteps := 1000000) only [VL,VM,↓VG,reduceIte,reduceCtorEq,zA,zB,zC,zD,zE,zF,zG,zH,zI,zJ]); rw [hKn];clear hKn Kn;simp only [QV,reduceIte,reduceCtorEq,Nat.reduceEqDiff])
   ((repeat refine Ws ?_);refine Wt (by first|rfl|simp only [EV,zF,reduceIte]) ?_)
   ((repeat refine Ws ?_);refine W_regionE T_ok ?_; intro Kn hKn)
   simp (maxSteps := 1000000) only [VL,VM,↓VG,reduceIte,reduceCtorEq,zA,zB,zC,zD,zE,zF,zG,zH,zI,zJ]
   rw [hKn]
   exact ⟨rfl, rfl, .inr ⟨y, L, hs0, rfl, ⟨rfl, rfl, rfl, trivial⟩⟩⟩
  | false =>
   have hs0 : rsStep i (y, false) row = rsPut i y w l := by unfold rsStep; rw [hpr]; rfl
   ((repeat refine Ws ?_);refine W_regionE T_ok ?_; intro Kn hKn)
   ((simp (maxSteps := 1000000) only [VL,VM,↓VG,reduceIte,reduceCtorEq,zA,zB,zC,zD,zE,zF,zG,zH,zI,zJ]); rw [hKn];clear hKn Kn;simp only [QV,reduceIte,reduceCtorEq,Nat.reduceEqDiff])
   ((repeat refine Ws ?_);refine Wf (by first|rfl|simp only [EV,zF,reduceIte]) ?_)
   by_cases hi0 : i = 0
   ·subst hi0
    have k5 : (((0 : Nat) : Int) = 0) = True := eq_true rfl
    ((repeat refine Ws ?_);refine W_regionE T_ok ?_; intro Kn hKn)
    ((simp (maxSteps := 1000000) only [VL,VM,↓VG,reduceIte,reduceCtorEq,zA,zB,zC,zD,zE,zF,zG,zH,zI,zJ, k5]); rw [hKn];clear hKn Kn;simp only [QV,reduceIte,reduceCtorEq,Nat.reduceEqDiff])
    ((repeat refine Ws ?_);refine Wt (by first|rfl|simp only [EV,zF,reduceIte]) ?_)
    by_cases hw : w = wYard
    ·have kw : (w = wYard) = True := eq_true hw
     by_cases hl1 : l.length = 1
     ·obtain ⟨a, rfl⟩ := one hl1
      have kl : (((1 : Nat) : Int) = 1) = True := eq_true rfl
      ((repeat refine Ws ?_);refine W_regionE T_ok ?_; intro Kn hKn)
      ((simp (maxSteps := 1000000) only [VL,VM,↓VG,reduceIte,reduceCtorEq,zA,zB,zC,zD,zE,zF,zG,zH,zI,zJ, litYard, v_eqS, kw, kl]); rw [hKn];clear hKn Kn;simp only [QV,reduceIte,reduceCtorEq,Nat.reduceEqDiff])
      ((repeat refine Ws ?_);refine W_regionE T_ok ?_; intro Kn hKn)
      ((simp (maxSteps := 1000000) only [VL,VM,↓VG,reduceIte,reduceCtorEq,zA,zB,zC,zD,zE,zF,zG,zH,zI,zJ]); rw [hKn];clear hKn Kn;simp only [QV,reduceIte,reduceCtorEq,Nat.reduceEqDiff])
      ((repeat refine Ws ?_);refine Wt (by first|rfl|simp only [EV,zF,reduceIte]) ?_)
      ((repeat refine Ws ?_);refine W_regionE T_ok ?_; intro Kn hKn)
      simp (maxSteps := 1000000) only [VL,VM,↓VG,reduceIte,reduceCtorEq,zA,zB,zC,zD,zE,zF,zG,zH,zI,zJ, RM_1, RM_s1]
      rw [hKn]
      exact ⟨rfl, rfl, .inl ⟨{ y with sweep := a }, false, L, hs0.trans (by unfold rsPut; rw [if_pos rfl, if_pos ⟨hw, rfl⟩]; rfl), rfl, ⟨rfl, rfl, rfl, rfl, rfl, rfl, trivial⟩⟩⟩
     ·have kl : ((l.length : Int) = 1) = False := eq_false (by omega)
      ((repeat refine Ws ?_);refine W_regionE T_ok ?_; intro Kn hKn)
      ((simp (maxSteps := 1000000) only [VL,VM,↓VG,reduceIte,reduceCtorEq,zA,zB,zC,zD,zE,zF,zG,zH,zI,zJ, litYard, v_eqS, kw, kl]); rw [hKn];clear hKn Kn;simp only [QV,reduceIte,reduceCtorEq,Nat.reduceEqDiff])
      ((repeat refine Ws ?_);refine W_regionE T_ok ?_; intro Kn hKn)
      ((simp (maxSteps := 1000000) only [VL,VM,↓VG,reduceIte,reduceCtorEq,zA,zB,zC,zD,zE,zF,zG,zH,zI,zJ]); rw [hKn];clear hKn Kn;simp only [QV,reduceIte,reduceCtorEq,Nat.reduceEqDiff])
      ((repeat refine Ws ?_);refine Wf (by first|rfl|simp only [EV,zF,reduceIte]) ?_)
      ((repeat refine Ws ?_);refine W_skip ?_)
      exact ⟨rfl, rfl, .inr ⟨y, L, hs0.trans (by unfold rsPut; rw [if_pos rfl, if_neg (fun h => hl1 h.2)]), rfl, ⟨rfl, rfl, rfl, trivial⟩⟩⟩
    ·have kw : (w = wYard) = False := eq_false hw
     ((repeat refine Ws ?_);refine W_regionE T_ok ?_; intro Kn hKn)
     ((simp (maxSteps := 1000000) only [VL,VM,↓VG,reduceIte,reduceCtorEq,zA,zB,zC,zD,zE,zF,zG,zH,zI,zJ, litYard, v_eqS, kw]); rw [hKn];clear hKn Kn;simp only [QV,reduceIte,reduceCtorEq,Nat.reduceEqDiff])
     ((repeat refine Ws ?_);refine W_regionE T_ok ?_; intro Kn hKn)
     ((simp (maxSteps := 1000000) only [VL,VM,↓VG,reduceIte,reduceCtorEq,zA,zB,zC,zD,zE,zF,zG,zH,zI,zJ]); rw [hKn];clear hKn Kn;simp only [QV,reduceIte,reduceCtorEq,Nat.reduceEqDiff])
     ((repeat refine Ws ?_);refine Wf (by first|rfl|simp only [EV,zF,reduceIte]) ?_)
     ((repeat refine Ws ?_);refine W_skip ?_)
     exact ⟨rfl, rfl, .inr ⟨y, L, hs0.trans (by unfold rsPut; rw [if_pos rfl, if_neg (fun h => hw h.1)]), rfl, ⟨rfl, rfl, rfl, trivial⟩⟩⟩
   have k5 : ((i : Int) = 0) = False := eq_false (by omega)
   ((repeat refine Ws ?_);refine W_regionE T_ok ?_; intro Kn hKn)
   ((simp (maxSteps := 1000000) only [VL,VM,↓VG,reduceIte,reduceCtorEq,zA,zB,zC,zD,zE,zF,zG,zH,zI,zJ, k5]); rw [hKn];clear hKn Kn;simp only [QV,reduceIte,reduceCtorEq,Nat.reduceEqDiff])
   ((repeat refine Ws ?_);refine Wf (by first|rfl|simp only [EV,zF,reduceIte]) ?_)
   have bad : ¬ (w = wRamp ∧ l.length = 3 ∧ y.carts.length = 0) → ¬ (w = wCart ∧ 5 ≤ l.length) → ¬ (w = wEnd ∧ l.length = 1) → rsPut i y w l = none := fun h1 h2 h3 => by
    unfold rsPut
    rw [if_neg hi0, if_neg h1, if_neg h2, if_neg h3]
   have qa : addLg (M.H.length + 1) [M.H.length + 2] (M.lg ++ [(M.H.length + 1, M.H.length + 2), (M.H.length + 1, M.H.length + 3)]) = M.lg ++ [(M.H.length + 1, M.H.length + 2), (M.H.length + 1, M.H.length + 3)] := addLg_hasY (by simp)
   have qb : addLg (M.H.length + 1) [M.H.length + 3] (M.lg ++ [(M.H.length + 1, M.H.length + 2), (M.H.length + 1, M.H.length + 3)]) = M.lg ++ [(M.H.length + 1, M.H.length + 2), (M.H.length + 1, M.H.length + 3)] := addLg_hasY (by simp)
   by_cases hr : w = wRamp
   ·have kr : (w = wRamp) = True := eq_true hr
    have hc : w ≠ wCart := by rw [hr]; decide
    have he : w ≠ wEnd := by rw [hr]; decide
    have kc : (w = wCart) = False := eq_false hc
    have ke : (w = wEnd) = False := eq_false he
    by_cases hl3 : l.length = 3
    ·obtain ⟨a, c, d, rfl⟩ := three hl3
     have kl : (((3 : Nat) : Int) = 3) = True := eq_true rfl
     by_cases hcl : y.carts.length = 0
     ·have kcl : ((y.carts.length : Int) = 0) = True := eq_true (by omega)
      have q1 : ((y.ramps.length + 1) * 24 ≤ 140737488355328) = True := eq_true (by have := hok.r; omega)
      ((repeat refine Ws ?_);refine W_regionE T_ok ?_; intro Kn hKn)
      ((simp (maxSteps := 1000000) only [VL,VM,↓VG,reduceIte,reduceCtorEq,zA,zB,zC,zD,zE,zF,zG,zH,zI,zJ, litRamp, v_eqS, kr, kl, RM_1, kcl]); rw [hKn];clear hKn Kn;simp only [QV,reduceIte,reduceCtorEq,Nat.reduceEqDiff])
      ((repeat refine Ws ?_);refine Wt (by first|rfl|simp only [EV,zF,reduceIte]) ?_)
      (repeat refine Ws ?_)
      refine W_drawE T_ok [] (by kernel_rfl) (by kernel_rfl) ?_
      intro Kn hKn
      generalize hi : mkPlan _ = infs
      cbv at hi
      subst hi
      simp (maxSteps := 1000000) only [VL,VM,↓VG,reduceIte,reduceCtorEq,zA,zB,zC,zD,zE,zF,zG,zH,zI,zJ, RM_1, RM_2, RM_s1, RM_s2, q1, qa]
      rw [hKn]
      refine ⟨rfl, rfl, .inl ⟨{ y with ramps := y.ramps ++ [⟨a, c, d⟩] }, false, L, hs0.trans (by unfold rsPut; rw [if_neg hi0, if_pos ⟨hr, rfl, hcl⟩]; rfl), ?_, ⟨rfl, rfl, rfl, rfl, rfl, rfl, trivial⟩⟩⟩
      simp
     ·have kcl : ((y.carts.length : Int) = 0) = False := eq_false (by omega)
      ((repeat refine Ws ?_);refine W_regionE T_ok ?_; intro Kn hKn)
      ((simp (maxSteps := 1000000) only [VL,VM,↓VG,reduceIte,reduceCtorEq,zA,zB,zC,zD,zE,zF,zG,zH,zI,zJ, litRamp, v_eqS, kr, kl, RM_1, kcl]); rw [hKn];clear hKn Kn;simp only [QV,reduceIte,reduceCtorEq,Nat.reduceEqDiff])
      ((repeat refine Ws ?_);refine Wf (by first|rfl|simp only [EV,zF,reduceIte]) ?_)
      ((repeat refine Ws ?_);refine W_regionE T_ok ?_; intro Kn hKn)
      ((simp (maxSteps := 1000000) only [VL,VM,↓VG,reduceIte,reduceCtorEq,zA,zB,zC,zD,zE,zF,zG,zH,zI,zJ, litCart, v_eqS, kc]); rw [hKn];clear hKn Kn;simp only [QV,reduceIte,reduceCtorEq,Nat.reduceEqDiff])
      ((repeat refine Ws ?_);refine Wf (by first|rfl|simp only [EV,zF,reduceIte]) ?_)
      ((repeat refine Ws ?_);refine W_regionE T_ok ?_; intro Kn hKn)
      ((simp (maxSteps := 1000000) only [VL,VM,↓VG,reduceIte,reduceCtorEq,zA,zB,zC,zD,zE,zF,zG,zH,zI,zJ, litEnd, v_eqS, ke]); rw [hKn];clear hKn Kn;simp only [QV,reduceIte,reduceCtorEq,Nat.reduceEqDiff])
      ((repeat refine Ws ?_);refine Wf (by first|rfl|simp only [EV,zF,reduceIte]) ?_)
      ((repeat refine Ws ?_);refine W_regionE T_ok ?_; intro Kn hKn)
      simp (maxSteps := 1000000) only [VL,VM,↓VG,reduceIte,reduceCtorEq,zA,zB,zC,zD,zE,zF,zG,zH,zI,zJ]
      rw [hKn]
      exact ⟨rfl, rfl, .inr ⟨y, L, hs0.trans (bad (fun h => hcl h.2.2) (fun h => hc h.1) (fun h => he h.1)), rfl, ⟨rfl, rfl, rfl, trivial⟩⟩⟩
    ·have kl : ((l.length : Int) = 3) = False := eq_false (by omega)
     ((repeat refine Ws ?_);refine W_regionE T_ok ?_; intro Kn hKn)
     ((simp (maxSteps := 1000000) only [VL,VM,↓VG,reduceIte,reduceCtorEq,zA,zB,zC,zD,zE,zF,zG,zH,zI,zJ, litRamp, v_eqS, kr, kl]); rw [hKn];clear hKn Kn;simp only [QV,reduceIte,reduceCtorEq,Nat.reduceEqDiff])
     ((repeat refine Ws ?_);refine Wf (by first|rfl|simp only [EV,zF,reduceIte]) ?_)
     ((repeat refine Ws ?_);refine W_regionE T_ok ?_; intro Kn hKn)
     ((simp (maxSteps := 1000000) only [VL,VM,↓VG,reduceIte,reduceCtorEq,zA,zB,zC,zD,zE,zF,zG,zH,zI,zJ, litCart, v_eqS, kc]); rw [hKn];clear hKn Kn;simp only [QV,reduceIte,reduceCtorEq,Nat.reduceEqDiff])
     ((repeat refine Ws ?_);refine Wf (by first|rfl|simp only [EV,zF,reduceIte]) ?_)
     ((repeat refine Ws ?_);refine W_regionE T_ok ?_; intro Kn hKn)
     ((simp (maxSteps := 1000000) only [VL,VM,↓VG,reduceIte,reduceCtorEq,zA,zB,zC,zD,zE,zF,zG,zH,zI,zJ, litEnd, v_eqS, ke]); rw [hKn];clear hKn Kn;simp only [QV,reduceIte,reduceCtorEq,Nat.reduceEqDiff])
     ((repeat refine Ws ?_);refine Wf (by first|rfl|simp only [EV,zF,reduceIte]) ?_)
     ((repeat refine Ws ?_);refine W_regionE T_ok ?_; intro Kn hKn)
     simp (maxSteps := 1000000) only [VL,VM,↓VG,reduceIte,reduceCtorEq,zA,zB,zC,zD,zE,zF,zG,zH,zI,zJ]
     rw [hKn]
     exact ⟨rfl, rfl, .inr ⟨y, L, hs0.trans (bad (fun h => hl3 h.2.1) (fun h => hc h.1) (fun h => he h.1)), rfl, ⟨rfl, rfl, rfl, trivial⟩⟩⟩
   have kr : (w = wRamp) = False := eq_false hr
   ((repeat refine Ws ?_);refine W_regionE T_ok ?_; intro Kn hKn)
   ((simp (maxSteps := 1000000) only [VL,VM,↓VG,reduceIte,reduceCtorEq,zA,zB,zC,zD,zE,zF,zG,zH,zI,zJ, litRamp, v_eqS, kr]); rw [hKn];clear hKn Kn;simp only [QV,reduceIte,reduceCtorEq,Nat.reduceEqDiff])
   ((repeat refine Ws ?_);refine Wf (by first|rfl|simp only [EV,zF,reduceIte]) ?_)
   by_cases hc : w = wCart
   ·have kc : (w = wCart) = True := eq_true hc
    have he : w ≠ wEnd := by rw [hc]; decide
    have ke : (w = wEnd) = False := eq_false he
    by_cases hl5 : 5 ≤ l.length
    ·obtain ⟨a1, a2, a3, a4, a5, r, rfl⟩ := five hl5
     have hrl : r.length ≤ 100000 := by simp at hll; omega
     have kl : ((5 : Int) ≤ ((r.length + 5 : Nat) : Int)) = True := eq_true (by omega)
     have q1 : ((y.carts.length + 1) * 64 ≤ 140737488355328) = True := eq_true (by have := hok.c; omega)
     have q2 : (r.length * 8 ≤ 140737488355328) = True := eq_true (by omega)
     ((repeat refine Ws ?_);refine W_regionE T_ok ?_; intro Kn hKn)
     ((simp (maxSteps := 1000000) only [VL,VM,↓VG,reduceIte,reduceCtorEq,zA,zB,zC,zD,zE,zF,zG,zH,zI,zJ, litCart, v_eqS, kc, kl]); rw [hKn];clear hKn Kn;simp only [QV,reduceIte,reduceCtorEq,Nat.reduceEqDiff])
     ((repeat refine Ws ?_);refine Wt (by first|rfl|simp only [EV,zF,reduceIte]) ?_)
     (repeat refine Ws ?_)
     refine W_drawE T_ok [] (by kernel_rfl) (by kernel_rfl) ?_
     intro Kn hKn
     generalize hi : mkPlan _ = infs
     cbv at hi
     subst hi
     simp (maxSteps := 1000000) only [VL,VM,↓VG,reduceIte,reduceCtorEq,zA,zB,zC,zD,zE,zF,zG,zH,zI,zJ, RM_1, RM_3, RM_s1, RM_s3, RM_len, RM_app, List.take_length, q1, q2, qb]
     rw [hKn]
     refine ⟨rfl, rfl, .inl ⟨{ y with carts := y.carts ++ [⟨a1, a2, ⟨a3, a4⟩, a5, r⟩] }, false, L ++ [.clm r.length 1], hs0.trans (by unfold rsPut; rw [if_neg hi0, if_neg (fun h => hr h.1), if_pos ⟨hc, hl5⟩]; rfl), ?_, ⟨rfl, rfl, rfl, rfl, rfl, rfl, trivial⟩⟩⟩
     simp
    ·have kl : ((5 : Int) ≤ (l.length : Int)) = False := eq_false (by omega)
     ((repeat refine Ws ?_);refine W_regionE T_ok ?_; intro Kn hKn)
     ((simp (maxSteps := 1000000) only [VL,VM,↓VG,reduceIte,reduceCtorEq,zA,zB,zC,zD,zE,zF,zG,zH,zI,zJ, litCart, v_eqS, kc, kl]); rw [hKn];clear hKn Kn;simp only [QV,reduceIte,reduceCtorEq,Nat.reduceEqDiff])
     ((repeat refine Ws ?_);refine Wf (by first|rfl|simp only [EV,zF,reduceIte]) ?_)
     ((repeat refine Ws ?_);refine W_regionE T_ok ?_; intro Kn hKn)
     ((simp (maxSteps := 1000000) only [VL,VM,↓VG,reduceIte,reduceCtorEq,zA,zB,zC,zD,zE,zF,zG,zH,zI,zJ, litEnd, v_eqS, ke]); rw [hKn];clear hKn Kn;simp only [QV,reduceIte,reduceCtorEq,Nat.reduceEqDiff])
     ((repeat refine Ws ?_);refine Wf (by first|rfl|simp only [EV,zF,reduceIte]) ?_)
     ((repeat refine Ws ?_);refine W_regionE T_ok ?_; intro Kn hKn)
     simp (maxSteps := 1000000) only [VL,VM,↓VG,reduceIte,reduceCtorEq,zA,zB,zC,zD,zE,zF,zG,zH,zI,zJ]
     rw [hKn]
     exact ⟨rfl, rfl, .inr ⟨y, L, hs0.trans (bad (fun h => hr h.1) (fun h => hl5 h.2) (fun h => he h.1)), rfl, ⟨rfl, rfl, rfl, trivial⟩⟩⟩
   have kc : (w = wCart) = False := eq_false hc
   ((repeat refine Ws ?_);refine W_regionE T_ok ?_; intro Kn hKn)
   ((simp (maxSteps := 1000000) only [VL,VM,↓VG,reduceIte,reduceCtorEq,zA,zB,zC,zD,zE,zF,zG,zH,zI,zJ, litCart, v_eqS, kc]); rw [hKn];clear hKn Kn;simp only [QV,reduceIte,reduceCtorEq,Nat.reduceEqDiff])
   ((repeat refine Ws ?_);refine Wf (by first|rfl|simp only [EV,zF,reduceIte]) ?_)
   by_cases he : w = wEnd
   ·have ke : (w = wEnd) = True := eq_true he
    by_cases hl1 : l.length = 1
    ·obtain ⟨a, rfl⟩ := one hl1
     have kl : (((1 : Nat) : Int) = 1) = True := eq_true rfl
     ((repeat refine Ws ?_);refine W_regionE T_ok ?_; intro Kn hKn)
     ((simp (maxSteps := 1000000) only [VL,VM,↓VG,reduceIte,reduceCtorEq,zA,zB,zC,zD,zE,zF,zG,zH,zI,zJ, litEnd, v_eqS, ke, kl]); rw [hKn];clear hKn Kn;simp only [QV,reduceIte,reduceCtorEq,Nat.reduceEqDiff])
     ((repeat refine Ws ?_);refine Wt (by first|rfl|simp only [EV,zF,reduceIte]) ?_)
     by_cases ha : a = (y.carts.length : Int)
     ·have ka : (a = (y.carts.length : Int)) = True := eq_true ha
      (repeat refine Ws ?_)
      refine W_drawE T_ok [] (by kernel_rfl) (by kernel_rfl) ?_
      intro Kn hKn
      generalize hi : mkPlan _ = infs
      cbv at hi
      subst hi
      simp (maxSteps := 1000000) only [VL,VM,↓VG,reduceIte,reduceCtorEq,zA,zB,zC,zD,zE,zF,zG,zH,zI,zJ, RM_1, ka]
      rw [hKn]
      exact ⟨rfl, rfl, .inl ⟨y, true, L, hs0.trans (by unfold rsPut; rw [if_neg hi0, if_neg (fun h => hr h.1), if_neg (fun h => hc h.1), if_pos ⟨he, rfl⟩]; exact if_pos ha), rfl, ⟨rfl, rfl, rfl, rfl, rfl, rfl, trivial⟩⟩⟩
     ·have ka : (a = (y.carts.length : Int)) = False := eq_false ha
      (repeat refine Ws ?_)
      refine W_drawE T_ok [] (by kernel_rfl) (by kernel_rfl) ?_
      intro Kn hKn
      generalize hi : mkPlan _ = infs
      cbv at hi
      subst hi
      simp (maxSteps := 1000000) only [VL,VM,↓VG,reduceIte,reduceCtorEq,zA,zB,zC,zD,zE,zF,zG,zH,zI,zJ, RM_1, ka]
      rw [hKn]
      exact ⟨rfl, rfl, .inr ⟨y, L, hs0.trans (by unfold rsPut; rw [if_neg hi0, if_neg (fun h => hr h.1), if_neg (fun h => hc h.1), if_pos ⟨he, rfl⟩]; exact if_neg ha), rfl, ⟨rfl, rfl, rfl, trivial⟩⟩⟩
    ·have kl : ((l.length : Int) = 1) = False := eq_false (by omega)
     ((repeat refine Ws ?_);refine W_regionE T_ok ?_; intro Kn hKn)
     ((simp (maxSteps := 1000000) only [VL,VM,↓VG,reduceIte,reduceCtorEq,zA,zB,zC,zD,zE,zF,zG,zH,zI,zJ, litEnd, v_eqS, ke, kl]); rw [hKn];clear hKn Kn;simp only [QV,reduceIte,reduceCtorEq,Nat.reduceEqDiff])
     ((repeat refine Ws ?_);refine Wf (by first|rfl|simp only [EV,zF,reduceIte]) ?_)
     ((repeat refine Ws ?_);refine W_regionE T_ok ?_; intro Kn hKn)
     simp (maxSteps := 1000000) only [VL,VM,↓VG,reduceIte,reduceCtorEq,zA,zB,zC,zD,zE,zF,zG,zH,zI,zJ]
     rw [hKn]
     exact ⟨rfl, rfl, .inr ⟨y, L, hs0.trans (bad (fun h => hr h.1) (fun h => hc h.1) (fun h => hl1 h.2)), rfl, ⟨rfl, rfl, rfl, trivial⟩⟩⟩
   have ke : (w = wEnd) = False := eq_false he
   ((repeat refine Ws ?_);refine W_regionE T_ok ?_; intro Kn hKn)
   ((simp (maxSteps := 1000000) only [VL,VM,↓VG,reduceIte,reduceCtorEq,zA,zB,zC,zD,zE,zF,zG,zH,zI,zJ, litEnd, v_eqS, ke]); rw [hKn];clear hKn Kn;simp only [QV,reduceIte,reduceCtorEq,Nat.reduceEqDiff])
   ((repeat refine Ws ?_);refine Wf (by first|rfl|simp only [EV,zF,reduceIte]) ?_)
   ((repeat refine Ws ?_);refine W_regionE T_ok ?_; intro Kn hKn)
   simp (maxSteps := 1000000) only [VL,VM,↓VG,reduceIte,reduceCtorEq,zA,zB,zC,zD,zE,zF,zG,zH,zI,zJ]
   rw [hKn]
   exact ⟨rfl, rfl, .inr ⟨y, L, hs0.trans (bad (fun h => hr h.1) (fun h => hc h.1) (fun h => he h.1)), rfl, ⟨rfl, rfl, rfl, trivial⟩⟩⟩
end Go.Proofs.YtmiiipdgbkipjaaGreatDoor.Vm
