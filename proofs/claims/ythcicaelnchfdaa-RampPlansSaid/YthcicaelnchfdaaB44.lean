/- A part of the proofs about the chapter of the ramps; it states no condition of its own. -/
import Derived.Test.YthcicaelnchfdaaB15
import Derived.Test.YthcicaelnchfdaaB18
import Derived.Test.YthcicaelnchfdaaB31
import Derived.Test.YthcicaelnchfdaaB36
import Derived.Test.YthcicaelnchfdaaB37
import Derived.Test.YthcicaelnchfdaaB39
import Derived.Test.YthcicaelnchfdaaB43
set_option linter.unusedVariables false
set_option linter.unusedSimpArgs false
open Int renaming reduceLE → zA, reduceLT → zB, reduceToNat → zC, reduceNeg → zD
open Nat renaming reduceLT → zE, reduceEqDiff → zF, reduceAdd → zG, reduceSub → zH, reduceMul → zI, reduceLeDiff → zJ
/- Slots copied into a buffer of our own. (Vm) -/
-- TABLE TP
namespace Go.Proofs.Ythcicaelnchfdaa.Vm
open Go Go.Proofs
noncomputable def TP : Tab := ownT2 T ownO keepsC
theorem TP_ok : TabOk Try.prog TP := ownT2_ok T_ok
theorem xP_ty : TP.ty = T.ty := ownT2_ty
theorem xP_fn : TP.fn = T.fn := ownT2_fn
theorem xP_bin : vbin TP = vbin T ∧ TP.ownS = T.ownS := ⟨ownT2_bin, rfl⟩
theorem xP_oi : TP.own 26 = true := by rw [TP, ownT2_own]; rfl
theorem xP_oc : TP.own 37 = true := by rw [TP, ownT2_own]; rfl
theorem xP_ok : TP.own 23 = false ∧ TP.own 22 = false := by rw [TP, ownT2_own]; exact ⟨rfl, rfl⟩
theorem TP_keeps : TP.keeps = keepsC := ownT2_keeps
theorem copySlots_own (xs : List St) (M : Mem) (hl : xs.length ≤ 1000000) : VC Try.prog 41 [stsV xs] M (fun r M' => M' = ⟨M.H ++ [.obj (stC xs)], M.lg⟩ ∧ r = .bf M.H.length 0 xs.length 2) := by
 have q1 : (xs.length * 16 ≤ 140737488355328) = True := eq_true (by omega)
 refine VC_keep TP_ok (f := 41) (fn := Try.f41) (by rw [xP_fn]; kernel_rfl) rfl Try.ntmps41 (by rfl) (by rw [TP_keeps]; rfl) ?_
 ((repeat refine Ws ?_);refine W_region0 TP_ok ?_)
 simp (maxSteps := 1000000) only [xP_ty, xP_fn, xP_bin, xP_oi, xP_oc, xP_ok, VL,VM,↓VG,reduceIte,reduceCtorEq,zA,zB,zC,zD,zE,zF,zG,zH,zI,zJ]
 ((repeat refine Ws ?_);refine W_region0 TP_ok ?_)
 simp (maxSteps := 1000000) only [xP_ty, xP_fn, xP_bin, xP_oi, xP_oc, xP_ok, VL,VM,↓VG,reduceIte,reduceCtorEq,zA,zB,zC,zD,zE,zF,zG,zH,zI,zJ, q1]
 rw [flat_sts]
 (repeat refine Ws ?_)
 exact W_ret ⟨.inr rfl, rfl, [.bf M.H.length 0 xs.length 2], by simp [vresL, Try.f41, get_cons], rfl, rfl⟩
end Go.Proofs.Ythcicaelnchfdaa.Vm

/- The law of the plan of Serve, on values. (Vm) -/
namespace Go.Proofs.Ythcicaelnchfdaa.Vm
open Go Go.Proofs
attribute [local irreducible] castF castU fromF fromU oneF oneU yardS
end Go.Proofs.Ythcicaelnchfdaa.Vm
