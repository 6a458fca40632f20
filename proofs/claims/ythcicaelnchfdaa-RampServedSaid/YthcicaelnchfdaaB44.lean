/- A part of the proofs about the chapter of the ramps; it states no condition of its own. -/
import Derived.Test.YthcicaelnchfdaaB15
import Derived.Test.YthcicaelnchfdaaB18
import Derived.Test.YthcicaelnchfdaaB31
import Derived.Test.YthcicaelnchfdaaB36
import Derived.Test.YthcicaelnchfdaaB37
import Derived.Test.YthcicaelnchfdaaB39
import Derived.Test.YthcicaelnchfdaaB43
set_option linter.unusedVariables false
set_option linter.unusedSimpArgs false
open Int renaming reduceLE → zA, reduceLT → zB, reduceToNat → zC, reduceNeg → zD
open Nat renaming reduceLT → zE, reduceEqDiff → zF, reduceAdd → zG, reduceSub → zH, reduceMul → zI, reduceLeDiff → zJ
/- Slots copied into a buffer of our own. (Vm) -/
-- TABLE TP
namespace Go.Proofs.Ythcicaelnchfdaa.Vm
open Go Go.Proofs
noncomputable def TP : Tab := ownT2 T ownO keepsC
theorem TP_ok : TabOk Try.prog TP := ownT2_ok T_ok
theorem xP_ty : TP.ty = T.ty := ownT2_ty
theorem xP_fn : TP.fn = T.fn := ownT2_fn
theorem xP_bin : vbin TP = vbin T ∧ TP.ownS = T.ownS := ⟨ownT2_bin, rfl⟩
theorem xP_oi : TP.own 26 = true := by rw [TP, ownT2_own]; rfl
theorem xP_oc : TP.own 37 = true := by rw [TP, ownT2_own]; rfl
theorem xP_ok : TP.own 23 = false ∧ TP.own 22 = false := by rw [TP, ownT2_own]; exact ⟨rfl, rfl⟩
theorem TP_keeps : TP.keeps = keepsC := ownT2_keeps
theorem copySlots_own (xs : List St) (M : Mem) (hl : xs.length ≤ 1000000) : VC Try.prog 41 [stsV xs] M (fun r M' => M' = ⟨M.H ++ [.obj (stC xs)], M.lg⟩ ∧ r = .bf M.H.length 0 xs.length 2) := by
 have q1 : (xs.length * 16 ≤ 140737488355328) = True := eq_true (by omega)
 refine VC_keep TP_ok (f := 41) (fn := Try.f41) (by rw [xP_fn]; kernel_rfl) rfl Try.ntmps41 (by rfl) (by rw [TP_keeps]; rfl) ?_
 ((repeat refine Ws ?_);refine W_region0 TP_ok ?_)
 simp (maxSteps := 1000000) only [xP_ty, xP_fn, xP_bin, xP_oi, xP_oc, xP_ok, VL,VM,↓VG,reduceIte,reduceCtorEq,zA,zB,zC,zD,zE,zF,zG,zH,zI,zJ]
 ((repeat refine Ws ?_);refine W_region0 TP_ok ?_)
 simp (maxSteps := 1000000) only [xP_ty, xP_fn, xP_bin, xP_oi, xP_oc, xP_ok, VL,VM,↓VG,reduceIte,reduceCtorEq,zA,zB,zC,zD,zE,zF,zG,zH,zI,zJ, q1]
 rw [flat_sts]
 (repeat refine Ws ?_)
 exact W_ret ⟨.inr rfl, rfl, [.bf M.H.length 0 xs.length 2], by simp [vresL, Try.f41, get_cons], rfl, rfl⟩
end Go.Proofs.Ythcicaelnchfdaa.Vm

/- The law of the plan of Serve, on values. (Vm) -/
namespace Go.Proofs.Ythcicaelnchfdaa.Vm
open Go Go.Proofs
theorem holds_sure {y : Ya} {p : List St} : ((holdsV y p).2 = 0 ∧ (holdsV y p).1 = 1) ↔ plErr y p = 0 ∧ heldB y p (longest y) = true := by
 unfold holdsV
 by_cases h1 : plErr y p = 0
 ·rw [if_pos h1]
  by_cases h2 : heldB y p (longest y) = true
  ·rw [if_pos h2]; simp [h1, h2]
  ·rw [if_neg h2]
   by_cases h3 : heldB y p (shortest y) = true
   ·rw [if_pos h3]; simp [h1, h2]
   ·rw [if_neg h3]; simp [h1, h2]
 ·rw [if_neg h1]; simp [h1]
def soonP (p : List St) (i : Nat) : List St := p.set i ⟨(stAt p i).ramp, (stAt p i).from_ - 1⟩
theorem no_sooner {y : Ya} (hy : YaV y) {p : List St} (h : servedR y = some p) {i : Nat} (hi : i < p.length) : ¬ ((holdsV y (soonP p i)).2 = 0 ∧ (holdsV y (soonP p i)).1 = 1) := by
 rw [holds_sure]
 intro ⟨h1, h2⟩
 have fe : Fe y (soonP p i) := (fe_iff hy).2 ⟨(plErr_ok.1 h1).2, h2⟩
 obtain ⟨x, hx, hle⟩ := (servedR_best hy).2 _ fe
 rw [h] at hx
 cases hx
 have hat : ∀ j, stAt (soonP p i) j = if i = j then ⟨(stAt p i).ramp, (stAt p i).from_ - 1⟩ else stAt p j := fun j => stAt_set hi
 have hlast : lastV y (soonP p i) ≤ lastV y p := by
  obtain ⟨a, b⟩ := lastV_le.1 (Int.le_refl (lastV y p))
  refine lastV_le.2 ⟨a, fun j hj hc => ?_⟩
  have hj' : j < p.length := by simpa [soonP] using hj
  have := b j hj' hc
  rw [hat]
  split
  ·rename_i e; subst e; simp only; omega
  ·exact this
 have hb : beforeB (soonP p i) p = true := before_at (c := i) (by simpa [soonP] using hi) hi (fun d hd => by rw [hat, if_neg (by omega)]) (by rw [hat, if_pos rfl]; simp [sltB]; omega)
 rcases hle with hle | ⟨_, hle⟩
 ·omega
 ·rw [hb] at hle; cases hle
theorem stC_get : ∀ (l : List St) (i : Nat), i < l.length → (stC l)[i * 2 + 1]? = some (vi (stAt l i).from_)
 | x :: l, 0, _ => by rw [stC_cons]; rfl
 | x :: l, i + 1, h => by
  rw [stC_cons, show (i + 1) * 2 + 1 = i * 2 + 1 + 1 + 1 by omega, List.getElem?_cons_succ, List.getElem?_cons_succ, stC_get l i (by simpa using h)]
  simp [stAt]
theorem stC_put : ∀ (l : List St) (i : Nat) (v : Int), i < l.length → (stC l).take (i * 2 + 1) ++ vi v :: (stC l).drop (i * 2 + 2) = stC (l.set i ⟨(stAt l i).ramp, v⟩)
 | x :: l, 0, v, _ => by rw [stC_cons, List.set_cons_zero, stC_cons]; simp [stAt]
 | x :: l, i + 1, v, h => by
  have ih := stC_put l i v (by simpa using h)
  rw [stC_cons, List.set_cons_succ, stC_cons, show (i + 1) * 2 + 1 = i * 2 + 1 + 1 + 1 by omega, show (i + 1) * 2 + 2 = i * 2 + 2 + 1 + 1 by omega]
  simp only [List.take_succ_cons, List.drop_succ_cons, List.cons_append]
  rw [ih]
  simp [stAt]
attribute [local irreducible] castF castU fromF fromU oneF oneU yardS
set_option maxHeartbeats 8000000 in
set_option maxRecDepth 100000 in
theorem served_law_v (xs : List Int) (M : Mem) (hl : xs.length ≤ maxLen) : VC Try.prog 11 [intsV xs] M (fun r M' => M' = M ∧ r = vb true) := by
 refine VC_own' T_ok (f := 11) (fn := Try.f11) (by kernel_rfl) rfl Try.ntmps11 (by rfl) (by rfl) ?_
 ((repeat refine Ws ?_);refine W_regionE T_ok ?_; intro Kn hKn)
 ((simp (maxSteps := 1000000) only [VL,VM,↓VG,reduceIte,reduceCtorEq,zA,zB,zC,zD,zE,zF,zG,zH,zI,zJ]); rw [hKn]; clear hKn; clear Kn; simp only [thenQ.eq_1, thenQ.eq_2, blockQ.eq_1, blockQ.eq_2, reduceIte, reduceCtorEq, Nat.reduceEqDiff])
 ((repeat refine Ws ?_);refine Wr ?_)
 simp (maxSteps := 1000000) only [VL,VM,↓VG,reduceIte,reduceCtorEq,zA,zB,zC,zD,zE,zF,zG,zH,zI,zJ]
 apply call_eq (f := 17) (fn := Try.f17) (by kernel_rfl) (by rfl)
 ·exact dieOf_v xs _ hl
 obtain ⟨H0, hH0⟩ : ∃ H0, H0 = M.H ++ [VObj.dead] := ⟨_, rfl⟩
 obtain ⟨d, hdd⟩ : ∃ d, d = M.H.length := ⟨_, rfl⟩
 have hd : d < H0.length := by rw [hH0, hdd]; simp
 have hlen0 : H0.length = M.H.length + 1 := by rw [hH0]; simp
 have tail : ∀ u L, DH H0 d u L = M.H ++ (.obj [uv u] :: L) := fun u L => by
  rw [hH0, hdd]
  exact DH_tail M u L
 rw [← hH0, ← hdd]
 generalize dieU xs = u0
 simp (maxSteps := 1000000) only [VL,VM,↓VG,reduceIte,reduceCtorEq,zA,zB,zC,zD,zE,zF,zG,zH,zI,zJ]
 have o1 := one2 (u := u0) (a := 9) (b := 60)
 ((repeat refine Ws ?_);refine Wr ?_)
 simp (maxSteps := 1000000) only [VL,VM,↓VG,reduceIte,reduceCtorEq,zA,zB,zC,zD,zE,zF,zG,zH,zI,zJ]
 apply call_eq (f := 19) (fn := Try.f19) (by kernel_rfl) (by rfl)
 ·exact one_c hd u0 [9, 60] M.lg (by simp) (by simp)
 generalize oneF u0 [9, 60] = m1 at o1 ⊢
 generalize oneU u0 [9, 60] = u1
 simp (maxSteps := 1000000) only [VL,VM,↓VG,reduceIte,reduceCtorEq,zA,zB,zC,zD,zE,zF,zG,zH,zI,zJ]
 apply call_eq (f := 18) (fn := Try.f18) (by kernel_rfl) (by rfl)
 ·exact yardOf_d hd u1 M.lg 3 5 m1 (by omega) (by omega) (by omega)
 have md := yardS_made (u := u1) (A := 3) (B := 5) (m := m1) (by omega) (by omega) (by omega)
 generalize yardS u1 3 5 m1 = y2 at md ⊢
 obtain ⟨y, u2⟩ := y2
 simp only at md ⊢
 have hy := md.V (by omega) (by omega) (by omega)
 have lens := md.len (by omega) (by omega)
 have hc7 := hy.m1
 simp (maxSteps := 1000000) only [VL,VM,↓VG,reduceIte,reduceCtorEq,zA,zB,zC,zD,zE,zF,zG,zH,zI,zJ, DH_app hd, DH_len, DH_len0, DH_get hd, DH_get0 hd, DH_set hd, DH_set0 hd, DH_setd, DH_die hd]
 rw [tail, hlen0]
 ((repeat refine Ws ?_);refine W_regionE T_ok ?_; intro Kn hKn)
 simp (maxSteps := 1000000) only [VL,VM,↓VG,reduceIte,reduceCtorEq,zA,zB,zC,zD,zE,zF,zG,zH,zI,zJ]
 apply call_eq (f := 21) (fn := Try.f21) (by kernel_rfl) (by rfl)
 ·exact pserve_v y _ lens.1 lens.2.1 lens.2.2
 rw [serveV]
 ((simp (maxSteps := 1000000) only [VL,VM,↓VG,reduceIte,reduceCtorEq,zA,zB,zC,zD,zE,zF,zG,zH,zI,zJ]); rw [hKn]; clear hKn; clear Kn; simp only [thenQ.eq_1, thenQ.eq_2, blockQ.eq_1, blockQ.eq_2, reduceIte, reduceCtorEq, Nat.reduceEqDiff])
 cases hs : servedR y with
 | none =>
  rw [serve_none hy hs]
  ((repeat refine Ws ?_);refine W_regionE T_ok ?_; intro Kn hKn)
  ((simp (maxSteps := 1000000) only [VL,VM,↓VG,reduceIte,reduceCtorEq,zA,zB,zC,zD,zE,zF,zG,zH,zI,zJ]); rw [hKn]; clear hKn; clear Kn; simp only [thenQ.eq_1, thenQ.eq_2, blockQ.eq_1, blockQ.eq_2, reduceIte, reduceCtorEq, Nat.reduceEqDiff])
  ((repeat refine Ws ?_);refine Wt (by first|rfl|simp only [EV,zF,reduceIte]) ?_)
  ((repeat refine Ws ?_);refine W_regionE T_ok ?_; intro Kn hKn)
  simp (maxSteps := 1000000) only [VL,VM,↓VG,reduceIte,reduceCtorEq,zA,zB,zC,zD,zE,zF,zG,zH,zI,zJ, show (((0 : Nat) : Int) = 0) = True from eq_true rfl]
  apply call_eq (f := 16) (fn := Try.f16) (by kernel_rfl) (by rfl)
  ·exact awake_v _
  ((simp (maxSteps := 1000000) only [VL,VM,↓VG,reduceIte,reduceCtorEq,zA,zB,zC,zD,zE,zF,zG,zH,zI,zJ]); rw [hKn]; clear hKn; clear Kn; simp only [thenQ.eq_1, thenQ.eq_2, blockQ.eq_1, blockQ.eq_2, reduceIte, reduceCtorEq, Nat.reduceEqDiff])
  (repeat refine Ws ?_)
  refine W_ret ?_
  try simp only [thenQ, blockQ]
  refine own_ret1 rfl ?_ (by rfl)
  simp only [get_cons, frz, vtup, Nat.reduceEqDiff, if_true, if_false, reduceIte]
 | some p =>
  rw [serve_some hy hs]
  have fe := (servedR_best hy).1 p hs
  have hpl := fe.len
  have hp7 : p.length ≤ 1000000 := by omega
  have hbd := fun i hi => fe.bd hy (i := i) hi
  obtain ⟨pv, hh⟩ := (fe_iff hy).1 fe
  have hpe : plErr y p = 0 := plErr_ok.2 ⟨hy, pv⟩
  have hH : holdsV y p = (1, 0) := by unfold holdsV; rw [if_pos hpe, if_pos hh]
  ((repeat refine Ws ?_);refine W_regionE T_ok ?_; intro Kn hKn)
  ((simp (maxSteps := 1000000) only [VL,VM,↓VG,reduceIte,reduceCtorEq,zA,zB,zC,zD,zE,zF,zG,zH,zI,zJ]); rw [hKn]; clear hKn; clear Kn; simp only [thenQ.eq_1, thenQ.eq_2, blockQ.eq_1, blockQ.eq_2, reduceIte, reduceCtorEq, Nat.reduceEqDiff])
  ((repeat refine Ws ?_);refine Wf (by first|rfl|simp only [EV,zF,reduceIte]) ?_)
  (((repeat refine Ws ?_);refine W_skip ?_); simp only [thenQ.eq_1, thenQ.eq_2, blockQ.eq_1, blockQ.eq_2, reduceIte, reduceCtorEq, Nat.reduceEqDiff])
  ((repeat refine Ws ?_);refine W_regionE T_ok ?_; intro Kn hKn)
  simp (maxSteps := 1000000) only [VL,VM,↓VG,reduceIte,reduceCtorEq,zA,zB,zC,zD,zE,zF,zG,zH,zI,zJ]
  apply call_eq (f := 39) (fn := Try.f39) (by kernel_rfl) (by rfl)
  ·exact pholds_v y p _ lens.1 lens.2.1 lens.2.2 hp7
  rw [hH]
  ((simp (maxSteps := 1000000) only [VL,VM,↓VG,reduceIte,reduceCtorEq,zA,zB,zC,zD,zE,zF,zG,zH,zI,zJ]); rw [hKn]; clear hKn; clear Kn; simp only [thenQ.eq_1, thenQ.eq_2, blockQ.eq_1, blockQ.eq_2, reduceIte, reduceCtorEq, Nat.reduceEqDiff])
  ((repeat refine Ws ?_);refine W_regionE T_ok ?_; intro Kn hKn)
  simp (maxSteps := 1000000) only [VL,VM,↓VG,reduceIte,reduceCtorEq,zA,zB,zC,zD,zE,zF,zG,zH,zI,zJ]
  apply call_eq (f := 40) (fn := Try.f40) (by kernel_rfl) (by rfl)
  ·exact last_v y p _ hp7 (by omega) (fun i hi => by have := hbd i hi; omega)
  ((simp (maxSteps := 1000000) only [VL,VM,↓VG,reduceIte,reduceCtorEq,zA,zB,zC,zD,zE,zF,zG,zH,zI,zJ, eq_self, decide_true, Bool.not_true]); rw [hKn]; clear hKn; clear Kn; simp only [thenQ.eq_1, thenQ.eq_2, blockQ.eq_1, blockQ.eq_2, reduceIte, reduceCtorEq, Nat.reduceEqDiff])
  ((repeat refine Ws ?_);refine Wf (by first|rfl|simp only [EV,zF,reduceIte]) ?_)
  (((repeat refine Ws ?_);refine W_skip ?_); simp only [thenQ.eq_1, thenQ.eq_2, blockQ.eq_1, blockQ.eq_2, reduceIte, reduceCtorEq, Nat.reduceEqDiff])
  ((repeat refine Ws ?_);refine W_regionE T_ok ?_; intro Kn hKn)
  ((simp (maxSteps := 1000000) only [VL,VM,↓VG,reduceIte,reduceCtorEq,zA,zB,zC,zD,zE,zF,zG,zH,zI,zJ]); rw [hKn]; clear hKn; clear Kn; simp only [thenQ.eq_1, thenQ.eq_2, blockQ.eq_1, blockQ.eq_2, reduceIte, reduceCtorEq, Nat.reduceEqDiff])
  ((repeat refine Ws ?_);refine W_block ?_; (repeat refine Ws ?_)); refine W_loopS (fun s : Nat × List VObj => [(4, .ptr (M.H.length + 1) 0), (5, stsV p), (10, vi s.1)]) (fun s => ⟨M.H ++ .obj [uv u2] :: .obj (yardC y) :: s.2, M.lg⟩) (fun s => p.length - s.1) (fun s => s.1 ≤ p.length) (0, []) (Nat.zero_le _) ⟨rfl, rfl, rfl, trivial⟩ rfl ?_
  rintro ⟨i, junk⟩ hi
  simp only at hi
  have k1 : -9223372036854775808 ≤ (i : Int) + 1 ∧ (i : Int) + 1 < 9223372036854775808 := by omega
  ((repeat refine Ws ?_);refine W_regionE T_ok ?_; intro Kn hKn)
  rcases Nat.lt_or_ge i p.length with hlt | hge
  rotate_left
  ·have k2 : ((i : Int) < (p.length : Int)) = False := eq_false (by omega)
   ((simp (maxSteps := 1000000) only [VL,VM,↓VG,reduceIte,reduceCtorEq,zA,zB,zC,zD,zE,zF,zG,zH,zI,zJ, k2]); rw [hKn]; clear hKn; clear Kn; simp only [thenQ.eq_1, thenQ.eq_2, blockQ.eq_1, blockQ.eq_2, reduceIte, reduceCtorEq, Nat.reduceEqDiff])
   ((repeat refine Ws ?_);refine Wf (by first|rfl|simp only [EV,zF,reduceIte]) ?_)
   (((repeat refine Ws ?_);refine W_exit ?_); simp only [thenQ.eq_1, thenQ.eq_2, blockQ.eq_1, blockQ.eq_2, reduceIte, reduceCtorEq, Nat.reduceEqDiff])
   ((repeat refine Ws ?_);refine W_regionE T_ok ?_; intro Kn hKn)
   simp (maxSteps := 1000000) only [VL,VM,↓VG,reduceIte,reduceCtorEq,zA,zB,zC,zD,zE,zF,zG,zH,zI,zJ]
   apply call_eq (f := 16) (fn := Try.f16) (by kernel_rfl) (by rfl)
   ·exact awake_v _
   ((simp (maxSteps := 1000000) only [VL,VM,↓VG,reduceIte,reduceCtorEq,zA,zB,zC,zD,zE,zF,zG,zH,zI,zJ]); rw [hKn]; clear hKn; clear Kn; simp only [thenQ.eq_1, thenQ.eq_2, blockQ.eq_1, blockQ.eq_2, reduceIte, reduceCtorEq, Nat.reduceEqDiff])
   (repeat refine Ws ?_)
   refine W_ret ?_
   try simp only [thenQ, blockQ]
   refine own_ret1 rfl ?_ (by rfl)
   simp only [get_cons, frz, vtup, Nat.reduceEqDiff, if_true, if_false, reduceIte]
  have k2 : ((i : Int) < (p.length : Int)) = True := eq_true (by omega)
  have hb := hbd i hlt
  have k3 : -9223372036854775808 ≤ (stAt p i).from_ - 1 ∧ (stAt p i).from_ - 1 < 9223372036854775808 := by omega
  obtain ⟨A, hA⟩ : ∃ A, A = M.H ++ VObj.obj [uv u2] :: VObj.obj (yardC y) :: junk := ⟨_, rfl⟩
  have hA1 : A[M.H.length + 1]? = some (VObj.obj (yardC y)) := by rw [hA, hget]; rfl
  have hA2 : ∀ L, (A ++ L)[M.H.length + 1]? = some (VObj.obj (yardC y)) := fun L => by rw [List.getElem?_append_left (List.getElem?_eq_some_iff.1 hA1).1]; exact hA1
  have g1 := stC_get p i hlt
  have g2 := stC_put p i ((stAt p i).from_ - 1) hlt
  have g3 : (i < p.length) = True := eq_true hlt
  have g4 := stC_len p
  have g5 : (i * 2 + 2 ≤ p.length * 2) = True := eq_true (by omega)
  rw [← hA]
  ((simp (maxSteps := 1000000) only [VL,VM,↓VG,reduceIte,reduceCtorEq,zA,zB,zC,zD,zE,zF,zG,zH,zI,zJ, k2]); rw [hKn]; clear hKn; clear Kn; simp only [thenQ.eq_1, thenQ.eq_2, blockQ.eq_1, blockQ.eq_2, reduceIte, reduceCtorEq, Nat.reduceEqDiff])
  ((repeat refine Ws ?_);refine Wt (by first|rfl|simp only [EV,zF,reduceIte]) ?_)
  (((repeat refine Ws ?_);refine W_skip ?_); simp only [thenQ.eq_1, thenQ.eq_2, blockQ.eq_1, blockQ.eq_2, reduceIte, reduceCtorEq, Nat.reduceEqDiff])
  ((repeat refine Ws ?_);refine W_block ?_)
  ((repeat refine Ws ?_);refine W_regionE T_ok ?_; intro Kn hKn)
  simp (maxSteps := 1000000) only [VL,VM,↓VG,reduceIte,reduceCtorEq,zA,zB,zC,zD,zE,zF,zG,zH,zI,zJ]
  apply call_eq (f := 41) (fn := Try.f41) (by kernel_rfl) (by rfl)
  ·exact copySlots_own p _ hp7
  ((simp (maxSteps := 1000000) only [VL,VM,↓VG,reduceIte,reduceCtorEq,zA,zB,zC,zD,zE,zF,zG,zH,zI,zJ]); rw [hKn]; clear hKn; clear Kn; simp only [thenQ.eq_1, thenQ.eq_2, blockQ.eq_1, blockQ.eq_2, reduceIte, reduceCtorEq, Nat.reduceEqDiff])
  ((repeat refine Ws ?_);refine W_regionE T_ok ?_; intro Kn hKn)
  ((simp (maxSteps := 1000000) only [VL,VM,↓VG,reduceIte,reduceCtorEq,zA,zB,zC,zD,zE,zF,zG,zH,zI,zJ, g1, g3, g4, g5, k3, g2]); rw [hKn]; clear hKn; clear Kn; simp only [thenQ.eq_1, thenQ.eq_2, blockQ.eq_1, blockQ.eq_2, reduceIte, reduceCtorEq, Nat.reduceEqDiff])
  have hsl : (soonP p i).length = p.length := by simp [soonP]
  rw [show p.set i ⟨(stAt p i).ramp, (stAt p i).from_ - 1⟩ = soonP p i from rfl]
  have hno := no_sooner hy hs hlt
  generalize soonP p i = q at hsl hno ⊢
  have hfz : VC Try.prog 39 [yardV y, .bf A.length 0 p.length 2] ⟨A ++ [.obj (stC q)], M.lg⟩ (fun r M' => M' = ⟨A ++ [.dead], M.lg⟩ ∧ r = .tup [vi (holdsV y q).1, vi (holdsV y q).2]) := by
   have := VC_frzA (P := Try.prog) (f := 39) (us := [yardV y]) (vs := []) (M := ⟨A ++ [.obj (stC q)], M.lg⟩) (id := A.length) (xs := q.map stP) (k := 2) (n := p.length) (by show (A ++ [VObj.obj (stC q)])[A.length]? = _; rw [hget0, flat_sts]; rfl) (by simp) (by simp [hsl]) (pholds_v y q _ lens.1 lens.2.1 lens.2.2 (by omega))
   have e : (A ++ [VObj.obj (stC q)]).set A.length .dead = A ++ [.dead] := by rw [hset0]; rfl
   rw [e] at this
   exact this
  ((repeat refine Ws ?_);refine W_regionE T_ok ?_; intro Kn hKn)
  simp (maxSteps := 1000000) only [VL,VM,↓VG,reduceIte,reduceCtorEq,zA,zB,zC,zD,zE,zF,zG,zH,zI,zJ, hA2]
  apply call_eq (f := 39) (fn := Try.f39) (by kernel_rfl) (by rfl)
  ·exact hfz
  ((simp (maxSteps := 1000000) only [VL,VM,↓VG,reduceIte,reduceCtorEq,zA,zB,zC,zD,zE,zF,zG,zH,zI,zJ, hA2]); rw [hKn]; clear hKn; clear Kn; simp only [thenQ.eq_1, thenQ.eq_2, blockQ.eq_1, blockQ.eq_2, reduceIte, reduceCtorEq, Nat.reduceEqDiff])
  ((repeat refine Ws ?_);refine W_regionE T_ok ?_; intro Kn hKn)
  by_cases c1 : (holdsV y q).2 = 0
  ·have c2 : ¬ (holdsV y q).1 = 1 := fun h => hno ⟨c1, h⟩
   ((simp (maxSteps := 1000000) only [VL,VM,↓VG,reduceIte,reduceCtorEq,zA,zB,zC,zD,zE,zF,zG,zH,zI,zJ, c1, c2]); rw [hKn]; clear hKn; clear Kn; simp only [thenQ.eq_1, thenQ.eq_2, blockQ.eq_1, blockQ.eq_2, reduceIte, reduceCtorEq, Nat.reduceEqDiff])
   ((repeat refine Ws ?_);refine Wf (by first|rfl|simp only [EV,zF,reduceIte]) ?_)
   (((repeat refine Ws ?_);refine W_skip ?_); simp only [thenQ.eq_1, thenQ.eq_2, blockQ.eq_1, blockQ.eq_2, reduceIte, reduceCtorEq, Nat.reduceEqDiff])
   ((repeat refine Ws ?_);refine W_regionE T_ok ?_; intro Kn hKn)
   ((simp (maxSteps := 1000000) only [VL,VM,↓VG,reduceIte,reduceCtorEq,zA,zB,zC,zD,zE,zF,zG,zH,zI,zJ, k1]); rw [hKn]; clear hKn; clear Kn; simp only [thenQ.eq_1, thenQ.eq_2, blockQ.eq_1, blockQ.eq_2, reduceIte, reduceCtorEq, Nat.reduceEqDiff])
   refine LoopK.mk (i + 1, junk ++ [.dead]) (by simp only; omega) (by simp only; omega) ⟨rfl, rfl, rfl, trivial⟩ (by rw [hA]; simp)
  ·((simp (maxSteps := 1000000) only [VL,VM,↓VG,reduceIte,reduceCtorEq,zA,zB,zC,zD,zE,zF,zG,zH,zI,zJ, c1]); rw [hKn]; clear hKn; clear Kn; simp only [thenQ.eq_1, thenQ.eq_2, blockQ.eq_1, blockQ.eq_2, reduceIte, reduceCtorEq, Nat.reduceEqDiff])
   ((repeat refine Ws ?_);refine Wf (by first|rfl|simp only [EV,zF,reduceIte]) ?_)
   (((repeat refine Ws ?_);refine W_skip ?_); simp only [thenQ.eq_1, thenQ.eq_2, blockQ.eq_1, blockQ.eq_2, reduceIte, reduceCtorEq, Nat.reduceEqDiff])
   ((repeat refine Ws ?_);refine W_regionE T_ok ?_; intro Kn hKn)
   ((simp (maxSteps := 1000000) only [VL,VM,↓VG,reduceIte,reduceCtorEq,zA,zB,zC,zD,zE,zF,zG,zH,zI,zJ, k1]); rw [hKn]; clear hKn; clear Kn; simp only [thenQ.eq_1, thenQ.eq_2, blockQ.eq_1, blockQ.eq_2, reduceIte, reduceCtorEq, Nat.reduceEqDiff])
   refine LoopK.mk (i + 1, junk ++ [.dead]) (by simp only; omega) (by simp only; omega) ⟨rfl, rfl, rfl, trivial⟩ (by rw [hA]; simp)
end Go.Proofs.Ythcicaelnchfdaa.Vm
