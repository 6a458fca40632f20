/- A part of the proofs about the chapter of the ramps; it states no condition of its own. -/
import Derived.Test.YthcicaelnchfdaaB27
import Derived.Test.YthcicaelnchfdaaB29
import Derived.Test.YthcicaelnchfdaaB31
set_option linter.unusedVariables false
set_option linter.unusedSimpArgs false
open Int renaming reduceLE → zA, reduceLT → zB, reduceToNat → zC, reduceNeg → zD
open Nat renaming reduceLT → zE, reduceEqDiff → zF, reduceAdd → zG, reduceSub → zH, reduceMul → zI, reduceLeDiff → zJ
/- A third table, in which slices of ramps are built as buffers of our own; the example yard in it. (Vm) -/
-- TABLE TS
namespace Go.Proofs.Ythcicaelnchfdaa.Vm
open Go Go.Proofs
def ownSB (t : Nat) : Bool := Nat.beq t 22
def ownS2 (T : Tab) (o : Nat → Bool) : Tab := { T with ownS := o }
section
variable {P : Program} {T : Tab} {o : Nat → Bool}
theorem ownS2_ok (h : TabOk P T) : TabOk P (ownS2 T o) := ⟨h.ty, h.fn, h.mixed⟩
theorem ownS2_ty : (ownS2 T o).ty = T.ty := rfl
theorem ownS2_fn : (ownS2 T o).fn = T.fn := rfl
theorem ownS2_bin : vbin (ownS2 T o) = vbin T := rfl
theorem ownS2_own : (ownS2 T o).own = T.own := rfl
theorem ownS2_ownS : (ownS2 T o).ownS = o := rfl
theorem ownS2_keeps : (ownS2 T o).keeps = T.keeps := rfl
end
noncomputable def TS : Tab := ownS2 T ownSB
theorem TS_ok : TabOk Try.prog TS := ownS2_ok T_ok
theorem xS_ty : TS.ty = T.ty := ownS2_ty
theorem xS_fn : TS.fn = T.fn := ownS2_fn
theorem xS_bin : vbin TS = vbin T := ownS2_bin
theorem xS_oi : TS.own = T.own := ownS2_own
theorem xS_oc : TS.ownS 22 = true := by rw [TS, ownS2_ownS]; rfl
theorem xS_ok : TS.ownS 26 = false ∧ TS.ownS 23 = false := by rw [TS, ownS2_ownS]; exact ⟨rfl, rfl⟩
theorem xS_keeps (f : Nat) : TS.keeps f = T.keeps f := by rw [TS, ownS2_keeps]
theorem yard_own (M : Mem) : VC Try.prog 56 [] M (fun r M' => (∃ Y, M' = ⟨M.H ++ [.obj [.bf (M.H.length + 1) 0 2 3, ctsV aY.carts, vi 5], .obj [vi 0, vi 60, vi 900, vi 10, vi 40, vi 500]], M.lg ++ Y⟩ ∧ ∀ e ∈ Y, M.H.length ≤ e.1) ∧ r = .agg [.bf (M.H.length + 1) 0 2 3, ctsV aY.carts, vi 5]) := by
 refine VC_esc TS_ok (f := 56) (fn := Try.f56) (by rw [xS_fn]; kernel_rfl) rfl Try.ntmps56 (by rfl) (by rw [xS_keeps]; rfl) ?_
 ((repeat refine Ws ?_);refine W_regionE TS_ok ?_; intro Kn hKn)
 ((simp (maxSteps := 1000000) only [xS_ty, xS_fn, xS_bin, xS_oi, xS_oc, xS_ok, VL,VM,↓VG,reduceIte,reduceCtorEq,zA,zB,zC,zD,zE,zF,zG,zH,zI,zJ]); rw [hKn];clear hKn Kn;simp only [QV,reduceIte,reduceCtorEq,Nat.reduceEqDiff])
 ((repeat refine Ws ?_);refine W_regionE TS_ok ?_; intro Kn hKn)
 simp (maxSteps := 1000000) only [xS_ty, xS_fn, xS_bin, xS_oi, xS_oc, xS_ok, VL,VM,↓VG,reduceIte,reduceCtorEq,zA,zB,zC,zD,zE,zF,zG,zH,zI,zJ, S_buildOwn, vbuildOwn]
 apply call_eq (f := 34) (fn := Try.f34) (by kernel_rfl) (by rfl)
 ·exact span_v _ _ _
 simp (maxSteps := 1000000) only [xS_ty, xS_fn, xS_bin, xS_oi, xS_oc, xS_ok, VL,VM,↓VG,reduceIte,reduceCtorEq,zA,zB,zC,zD,zE,zF,zG,zH,zI,zJ]
 apply call_eq (f := 34) (fn := Try.f34) (by kernel_rfl) (by rfl)
 ·exact span_v _ _ _
 simp (maxSteps := 1000000) only [xS_ty, xS_fn, xS_bin, xS_oi, xS_oc, xS_ok, VL,VM,↓VG,reduceIte,reduceCtorEq,zA,zB,zC,zD,zE,zF,zG,zH,zI,zJ]
 apply call_eq (f := 34) (fn := Try.f34) (by kernel_rfl) (by rfl)
 ·exact span_v _ _ _
 ((simp (maxSteps := 1000000) only [xS_ty, xS_fn, xS_bin, xS_oi, xS_oc, xS_ok, VL,VM,↓VG,reduceIte,reduceCtorEq,zA,zB,zC,zD,zE,zF,zG,zH,zI,zJ]); rw [hKn];clear hKn Kn;simp only [QV,reduceIte,reduceCtorEq,Nat.reduceEqDiff])
 (repeat refine Ws ?_)
 refine W_ret ?_
 try simp only [thenQ, blockQ]
 obtain ⟨Y, hY, g⟩ := addLg_Y M.H.length [M.H.length + 1] M.lg
 rw [hY]
 refine ⟨.inr trivial, trivial, [.agg [.bf (M.H.length + 1) 0 2 3, ctsV aY.carts, vi 5]], ?_, ⟨M.H.length + 1, ?_, Nat.le_succ _⟩, ⟨Y, rfl, fun e he => ?_⟩, ?_⟩
 ·simp [vresL, Try.f56, get_cons, vload, xS_ty, t_yard, nat_ble, hget0, strip1]
  rfl
 ·simp [vtup, frz, frzL, refs, refsL, hget]
 ·rw [(g e he).1]; exact Nat.le_refl _
 ·rfl
end Go.Proofs.Ythcicaelnchfdaa.Vm

/- The example's answers by the program, on values. (Vm) -/
namespace Go.Proofs.Ythcicaelnchfdaa.Vm
open Go Go.Proofs
theorem aY_len : aY.ramps.length ≤ 1000000 ∧ aY.carts.length ≤ 1000000 ∧ ∀ c ∈ aY.carts, c.ramps.length ≤ 1000000 := by decide
theorem nY_len : nY.ramps.length ≤ 1000000 ∧ nY.carts.length ≤ 1000000 ∧ ∀ c ∈ nY.carts, c.ramps.length ≤ 1000000 := by decide
theorem narrow_v (M : Mem) : VC Try.prog 57 [] M (fun r M' => M' = M ∧ r = yardV nY) := by
 refine VC_own' T_ok (f := 57) (fn := Try.f57) (by kernel_rfl) rfl Try.ntmps57 (by rfl) (by rfl) ?_
 ((repeat refine Ws ?_);refine W_regionE T_ok ?_; intro Kn hKn)
 ((simp (maxSteps := 1000000) only [VL,VM,↓VG,reduceIte,reduceCtorEq,zA,zB,zC,zD,zE,zF,zG,zH,zI,zJ]); rw [hKn];clear hKn Kn;simp only [QV,reduceIte,reduceCtorEq,Nat.reduceEqDiff])
 ((repeat refine Ws ?_);refine Wr ?_)
 simp (maxSteps := 1000000) only [VL,VM,↓VG,reduceIte,reduceCtorEq,zA,zB,zC,zD,zE,zF,zG,zH,zI,zJ]
 refine fn_call (f := 56) (fn := Try.f56) (by kernel_rfl) (by rfl) ?_
 refine (yard_own _).mono ?_
 rintro _ _ ⟨⟨Y, rfl, hY⟩, rfl⟩
 simp (maxSteps := 1000000) only [VL,VM,↓VG,reduceIte,reduceCtorEq,zA,zB,zC,zD,zE,zF,zG,zH,zI,zJ]
 ((repeat refine Ws ?_);refine Wr ?_)
 simp (maxSteps := 1000000) only [VL,VM,↓VG,reduceIte,reduceCtorEq,zA,zB,zC,zD,zE,zF,zG,zH,zI,zJ]
 (repeat refine Ws ?_)
 refine W_frz1 (id := M.H.length + 2) (n := 2) (k := 3) (o := M.H.length + 3) (j := 0) (xs := nY.ramps.map raP) (by rw [hget]; rfl) (by rw [hget]; rfl) rfl (by simp) rfl (by omega) ?_
 simp only [hset, List.set_cons_succ, List.set_cons_zero]
 obtain ⟨Y2, hY2, g2⟩ := addLg_Y (M.H.length + 3) [M.H.length + 2] (M.lg ++ Y)
 rw [hY2, List.append_assoc]
 ((repeat refine Ws ?_);refine Wr ?_)
 simp (maxSteps := 1000000) only [VL,VM,↓VG,reduceIte,reduceCtorEq,zA,zB,zC,zD,zE,zF,zG,zH,zI,zJ]
 (repeat refine Ws ?_)
 refine W_ret ?_
 try simp only [thenQ, blockQ]
 refine own_retC (Z := yardV nY) (.inr rfl) (fun e he => ?_) rfl ?_ rfl rfl
 ·rcases List.mem_append.1 he with h | h
  ·have := hY e h
   simp only [List.length_append, List.length_cons, List.length_nil] at this
   omega
  ·rw [(g2 e h).1]; omega
 ·simp [vload, t_yard, get_cons, hget0, nat_ble, strip1]
  exact ⟨rfl, rfl⟩
theorem awake_v (M : Mem) : VC Try.prog 16 [] M (fun r M' => M' = M ∧ r = vb true) := by
 have sV : serveV aY = .tup [stsV [⟨0, 0⟩, ⟨1, 10⟩, ⟨0, 25⟩], vi 55, vi 0] := by rw [serveV, aY_serve]
 refine VC_own' T_ok (f := 16) (fn := Try.f16) (by kernel_rfl) rfl Try.ntmps16 (by rfl) (by rfl) ?_
 ((repeat refine Ws ?_);refine W_regionE T_ok ?_; intro Kn hKn)
 ((simp (maxSteps := 1000000) only [VL,VM,↓VG,reduceIte,reduceCtorEq,zA,zB,zC,zD,zE,zF,zG,zH,zI,zJ]); rw [hKn];clear hKn Kn;simp only [QV,reduceIte,reduceCtorEq,Nat.reduceEqDiff])
 ((repeat refine Ws ?_);refine W_regionE T_ok ?_; intro Kn hKn)
 simp (maxSteps := 1000000) only [VL,VM,↓VG,reduceIte,reduceCtorEq,zA,zB,zC,zD,zE,zF,zG,zH,zI,zJ]
 apply call_eq (f := 56) (fn := Try.f56) (by kernel_rfl) (by rfl)
 ·exact yard_v _
 simp (maxSteps := 1000000) only [VL,VM,↓VG,reduceIte,reduceCtorEq,zA,zB,zC,zD,zE,zF,zG,zH,zI,zJ]
 apply call_eq (f := 21) (fn := Try.f21) (by kernel_rfl) (by rfl)
 ·exact pserve_v aY _ aY_len.1 aY_len.2.1 aY_len.2.2
 rw [sV]
 ((simp (maxSteps := 1000000) only [VL,VM,↓VG,reduceIte,reduceCtorEq,zA,zB,zC,zD,zE,zF,zG,zH,zI,zJ]); rw [hKn];clear hKn Kn;simp only [QV,reduceIte,reduceCtorEq,Nat.reduceEqDiff])
 ((repeat refine Ws ?_);refine W_regionE T_ok ?_; intro Kn hKn)
 simp (maxSteps := 1000000) only [VL,VM,↓VG,reduceIte,reduceCtorEq,zA,zB,zC,zD,zE,zF,zG,zH,zI,zJ]
 apply call_eq (f := 57) (fn := Try.f57) (by kernel_rfl) (by rfl)
 ·exact narrow_v _
 simp (maxSteps := 1000000) only [VL,VM,↓VG,reduceIte,reduceCtorEq,zA,zB,zC,zD,zE,zF,zG,zH,zI,zJ]
 apply call_eq (f := 25) (fn := Try.f25) (by kernel_rfl) (by rfl)
 ·exact pstuck_v nY _ nY_len.1 nY_len.2.1 nY_len.2.2
 rw [nY_stuck]
 ((simp (maxSteps := 1000000) only [VL,VM,↓VG,reduceIte,reduceCtorEq,zA,zB,zC,zD,zE,zF,zG,zH,zI,zJ]); rw [hKn];clear hKn Kn;simp only [QV,reduceIte,reduceCtorEq,Nat.reduceEqDiff])
 ((repeat refine Ws ?_);refine W_regionE T_ok ?_; intro Kn hKn)
 simp (maxSteps := 1000000) only [VL,VM,↓VG,reduceIte,reduceCtorEq,zA,zB,zC,zD,zE,zF,zG,zH,zI,zJ]
 apply call_eq (f := 57) (fn := Try.f57) (by kernel_rfl) (by rfl)
 ·exact narrow_v _
 simp (maxSteps := 1000000) only [VL,VM,↓VG,reduceIte,reduceCtorEq,zA,zB,zC,zD,zE,zF,zG,zH,zI,zJ]
 apply call_eq (f := 27) (fn := Try.f27) (by kernel_rfl) (by rfl)
 ·exact pmost_v nY _ nY_len.1 nY_len.2.1 nY_len.2.2
 rw [nY_most]
 ((simp (maxSteps := 1000000) only [VL,VM,↓VG,reduceIte,reduceCtorEq,zA,zB,zC,zD,zE,zF,zG,zH,zI,zJ]); rw [hKn];clear hKn Kn;simp only [QV,reduceIte,reduceCtorEq,Nat.reduceEqDiff])
 ((repeat refine Ws ?_);refine W_regionE T_ok ?_; intro Kn hKn)
 simp (maxSteps := 1000000) only [VL,VM,↓VG,reduceIte,reduceCtorEq,zA,zB,zC,zD,zE,zF,zG,zH,zI,zJ]
 apply call_eq (f := 58) (fn := Try.f58) (by kernel_rfl) (by rfl)
 ·exact plan_v _
 simp (maxSteps := 1000000) only [VL,VM,↓VG,reduceIte,reduceCtorEq,zA,zB,zC,zD,zE,zF,zG,zH,zI,zJ]
 apply call_eq (f := 23) (fn := Try.f23) (by kernel_rfl) (by rfl)
 ·exact sameSlots_v [⟨0, 0⟩, ⟨1, 10⟩, ⟨0, 25⟩] [⟨0, 0⟩, ⟨1, 10⟩, ⟨0, 25⟩] _ (by decide)
 simp (maxSteps := 1000000) only [VL,VM,↓VG,reduceIte,reduceCtorEq,zA,zB,zC,zD,zE,zF,zG,zH,zI,zJ, eq_self, decide_true]
 apply call_eq (f := 29) (fn := Try.f29) (by kernel_rfl) (by rfl)
 ·exact sameInts_v [0, 1, 2] [0, 1, 2] _ (by decide)
 simp (maxSteps := 1000000) only [VL,VM,↓VG,reduceIte,reduceCtorEq,zA,zB,zC,zD,zE,zF,zG,zH,zI,zJ, eq_self, decide_true]
 apply call_eq (f := 29) (fn := Try.f29) (by kernel_rfl) (by rfl)
 ·exact sameInts_v [0, 1] [0, 1] _ (by decide)
 ((simp (maxSteps := 1000000) only [VL,VM,↓VG,reduceIte,reduceCtorEq,zA,zB,zC,zD,zE,zF,zG,zH,zI,zJ, eq_self, decide_true]); rw [hKn];clear hKn Kn;simp only [QV,reduceIte,reduceCtorEq,Nat.reduceEqDiff])
 (repeat refine Ws ?_)
 refine W_ret ?_
 try simp only [thenQ, blockQ]
 refine own_ret10 rfl ?_ (by rfl)
 simp only [get_cons, frz, vtup, Nat.reduceEqDiff, if_true, if_false, reduceIte]
end Go.Proofs.Ythcicaelnchfdaa.Vm
