/- A part of the proofs about the chapter of the vaults; it states no condition of its own. -/
import Derived.Test.YtnjgdlmddlinaaaDoorB24
import Derived.Test.YtnjgdlmddlinaaaDoorB28
set_option linter.unusedVariables false
set_option linter.unusedSimpArgs false
open Int renaming reduceLE → zA, reduceLT → zB, reduceToNat → zC, reduceNeg → zD
open Nat renaming reduceLT → zE, reduceEqDiff → zF, reduceAdd → zG, reduceSub → zH, reduceMul → zI, reduceLeDiff → zJ
/- The example hall with its cells in buffers of our own. (Vm) -/
-- TABLE TX
namespace Go.Proofs.YtnjgdlmddlinaaaDoor.Vm
open Go Go.Proofs
theorem addLg_Y (id : Nat) (rs : List Nat) (lg : List (Nat × Nat)) : ∃ X, addLg id rs lg = lg ++ X ∧ ∀ e ∈ X, e.1 = id ∧ e.2 ∈ rs := by
 unfold addLg
 split
 ·exact ⟨[], by simp, by simp⟩
 ·refine ⟨_, rfl, fun e he => ?_⟩
  obtain ⟨r, hr, rfl⟩ := List.mem_map.1 he
  refine ⟨rfl, ?_⟩
  simp only [List.mem_filter] at hr
  first | exact hr.1 | exact hr
def ownS3 (T : Tab) (o : Nat → Nat → Bool) (k : Nat → Bool) : Tab := { T with ownS := o, keeps := k }
section
variable {P : Program} {T : Tab} {o : Nat → Nat → Bool} {k : Nat → Bool}
theorem ownS3_ok (h : TabOk P T) : TabOk P (ownS3 T o k) := ⟨h.ty, h.fn, h.mixed⟩
theorem ownS3_ty : (ownS3 T o k).ty = T.ty := rfl
theorem ownS3_fn : (ownS3 T o k).fn = T.fn := rfl
theorem ownS3_bin : vbin (ownS3 T o k) = vbin T := rfl
theorem ownS3_own : (ownS3 T o k).own = T.own := rfl
theorem ownS3_ownS : (ownS3 T o k).ownS = o := rfl
theorem ownS3_keeps : (ownS3 T o k).keeps = k := rfl
end
def ownXB (t _n : Nat) : Bool := Nat.beq t 22
noncomputable def TX : Tab := ownS3 T ownXB T.keeps
theorem TX_ok : TabOk Tryd.prog TX := ownS3_ok T_ok
theorem xX_ty : TX.ty = T.ty := ownS3_ty
theorem xX_fn : TX.fn = T.fn := ownS3_fn
theorem xX_bin : vbin TX = vbin T := ownS3_bin
theorem xX_oi : TX.own = T.own := ownS3_own
theorem xX_oc : ∀ n, TX.ownS 22 n = true := fun n => by rw [TX, ownS3_ownS]; rfl
theorem xX_ok : ∀ n, TX.ownS 25 n = false ∧ TX.ownS 26 n = false := fun n => by rw [TX, ownS3_ownS]; exact ⟨rfl, rfl⟩
theorem xX_keeps : TX.keeps = T.keeps := ownS3_keeps
abbrev hwC (n : Nat) : List VV := [vi 3, vi 2, .bf n 0 2 2, .bf (n + 1) 0 1 2, vi 2, vi 1, intsV vH.bears, kisV vH.kinds]
abbrev hwB0 : List VV := [vi 0, vi 0, vi 2, vi 1]
abbrev hwB1 : List VV := [vi 1, vi 1]
theorem hall_hw (M : Mem) : VC Tryd.prog 4 [] M (fun r M' => (∃ Y, M' = ⟨M.H ++ [.obj (hwC (M.H.length + 1)), .obj hwB0, .obj hwB1], M.lg ++ Y⟩ ∧ ∀ e ∈ Y, M.H.length ≤ e.1) ∧ r = .agg (hwC (M.H.length + 1))) := by
 refine VC_esc TX_ok (f := 4) (fn := Tryd.f4) (by rw [xX_fn]; kernel_rfl) rfl Tryd.ntmps4 (by rfl) (by rw [xX_keeps]; rfl) ?_
 ((repeat refine Ws ?_);refine W_region0 TX_ok ?_)
 simp (maxSteps := 1000000) only [xX_ty, xX_fn, xX_bin, xX_oi, xX_oc, xX_ok, VL,VM,↓VG,reduceIte,reduceCtorEq,zA,zB,zC,zD,zE,zF,zG,zH,zI,zJ]
 ((repeat refine Ws ?_);refine W_region0 TX_ok ?_)
 simp (maxSteps := 1000000) only [xX_ty, xX_fn, xX_bin, xX_oi, xX_oc, xX_ok, VL,VM,↓VG,reduceIte,reduceCtorEq,zA,zB,zC,zD,zE,zF,zG,zH,zI,zJ, S_buildOwn, vbuildOwn]
 apply call_eq (f := 17) (fn := Tryd.f17) (by kernel_rfl) (by rfl)
 ·exact vspan_v 200 300 _
 simp (maxSteps := 1000000) only [xX_ty, xX_fn, xX_bin, xX_oi, xX_oc, xX_ok, VL,VM,↓VG,reduceIte,reduceCtorEq,zA,zB,zC,zD,zE,zF,zG,zH,zI,zJ, S_buildOwn, vbuildOwn]
 apply call_eq (f := 17) (fn := Tryd.f17) (by kernel_rfl) (by rfl)
 ·exact vspan_v 100 150 _
 simp (maxSteps := 1000000) only [xX_ty, xX_fn, xX_bin, xX_oi, xX_oc, xX_ok, VL,VM,↓VG,reduceIte,reduceCtorEq,zA,zB,zC,zD,zE,zF,zG,zH,zI,zJ, S_buildOwn, vbuildOwn]
 (repeat refine Ws ?_)
 refine W_ret ?_
 try simp only [thenQ, blockQ]
 obtain ⟨Y, hY, g⟩ := addLg_Y M.H.length [M.H.length + 1, M.H.length + (1 + 1)] M.lg
 rw [hY]
 refine ⟨.inr trivial, trivial, [.agg (hwC (M.H.length + 1))], ?_, ⟨M.H.length + 1, ?_, Nat.le_succ _⟩, ⟨Y, rfl, fun e he => ?_⟩, ?_⟩
 ·simp [vresL, Tryd.f4, get_cons, vload, xX_ty, t_hall, nat_ble, hget0, strip1]
  first | rfl | exact ⟨rfl, rfl⟩ | exact ⟨rfl, rfl, rfl⟩ | exact ⟨rfl, rfl, rfl, rfl⟩
 ·simp [vtup, frz, frzL, refs, refsL, hget]
 ·rw [(g e he).1]; exact Nat.le_refl _
 ·rfl
end Go.Proofs.YtnjgdlmddlinaaaDoor.Vm

/- The example hall with what its bays bear in a buffer of our own. (Vm) -/
-- TABLE TY
namespace Go.Proofs.YtnjgdlmddlinaaaDoor.Vm
open Go Go.Proofs
def ownYB (t n : Nat) : Bool := Nat.beq t 25 && Nat.beq n 4
noncomputable def TY : Tab := ownS3 T ownYB T.keeps
theorem TY_ok : TabOk Tryd.prog TY := ownS3_ok T_ok
theorem xY_ty : TY.ty = T.ty := ownS3_ty
theorem xY_fn : TY.fn = T.fn := ownS3_fn
theorem xY_bin : vbin TY = vbin T := ownS3_bin
theorem xY_oi : TY.own = T.own := ownS3_own
theorem xY_oc : TY.ownS 25 4 = true := by rw [TY, ownS3_ownS]; rfl
theorem xY_ok : TY.ownS 25 2 = false ∧ (∀ n, TY.ownS 26 n = false) ∧ ∀ n, TY.ownS 22 n = false := by rw [TY, ownS3_ownS]; exact ⟨rfl, fun _ => rfl, fun _ => rfl⟩
theorem xY_keeps : TY.keeps = T.keeps := ownS3_keeps
abbrev hbC (n : Nat) : List VV := [vi 3, vi 2, plsV vH.water, plsV vH.shut, vi 2, vi 1, .bf n 0 4 1, kisV vH.kinds]
abbrev hbB0 : List VV := [vi 500, vi 300, vi 500, vi 200]
theorem hall_hb (M : Mem) : VC Tryd.prog 4 [] M (fun r M' => (∃ Y, M' = ⟨M.H ++ [.obj (hbC (M.H.length + 1)), .obj hbB0], M.lg ++ Y⟩ ∧ ∀ e ∈ Y, M.H.length ≤ e.1) ∧ r = .agg (hbC (M.H.length + 1))) := by
 refine VC_esc TY_ok (f := 4) (fn := Tryd.f4) (by rw [xY_fn]; kernel_rfl) rfl Tryd.ntmps4 (by rfl) (by rw [xY_keeps]; rfl) ?_
 ((repeat refine Ws ?_);refine W_region0 TY_ok ?_)
 simp (maxSteps := 1000000) only [xY_ty, xY_fn, xY_bin, xY_oi, xY_oc, xY_ok, VL,VM,↓VG,reduceIte,reduceCtorEq,zA,zB,zC,zD,zE,zF,zG,zH,zI,zJ]
 ((repeat refine Ws ?_);refine W_region0 TY_ok ?_)
 simp (maxSteps := 1000000) only [xY_ty, xY_fn, xY_bin, xY_oi, xY_oc, xY_ok, VL,VM,↓VG,reduceIte,reduceCtorEq,zA,zB,zC,zD,zE,zF,zG,zH,zI,zJ, S_buildOwn, vbuildOwn]
 apply call_eq (f := 17) (fn := Tryd.f17) (by kernel_rfl) (by rfl)
 ·exact vspan_v 200 300 _
 simp (maxSteps := 1000000) only [xY_ty, xY_fn, xY_bin, xY_oi, xY_oc, xY_ok, VL,VM,↓VG,reduceIte,reduceCtorEq,zA,zB,zC,zD,zE,zF,zG,zH,zI,zJ, S_buildOwn, vbuildOwn]
 apply call_eq (f := 17) (fn := Tryd.f17) (by kernel_rfl) (by rfl)
 ·exact vspan_v 100 150 _
 simp (maxSteps := 1000000) only [xY_ty, xY_fn, xY_bin, xY_oi, xY_oc, xY_ok, VL,VM,↓VG,reduceIte,reduceCtorEq,zA,zB,zC,zD,zE,zF,zG,zH,zI,zJ, S_buildOwn, vbuildOwn]
 (repeat refine Ws ?_)
 refine W_ret ?_
 try simp only [thenQ, blockQ]
 obtain ⟨Y, hY, g⟩ := addLg_Y M.H.length [M.H.length + 1] M.lg
 rw [hY]
 refine ⟨.inr trivial, trivial, [.agg (hbC (M.H.length + 1))], ?_, ⟨M.H.length + 1, ?_, Nat.le_succ _⟩, ⟨Y, rfl, fun e he => ?_⟩, ?_⟩
 ·simp [vresL, Tryd.f4, get_cons, vload, xY_ty, t_hall, nat_ble, hget0, strip1]
  first | rfl | exact ⟨rfl, rfl⟩ | exact ⟨rfl, rfl, rfl⟩ | exact ⟨rfl, rfl, rfl, rfl⟩
 ·simp [vtup, frz, frzL, refs, refsL, hget]
 ·rw [(g e he).1]; exact Nat.le_refl _
 ·rfl
end Go.Proofs.YtnjgdlmddlinaaaDoor.Vm

/- The example layout, to be appended to. (Vm) -/
-- TABLE TZ
namespace Go.Proofs.YtnjgdlmddlinaaaDoor.Vm
open Go Go.Proofs
def keepsZ (f : Nat) : Bool := Nat.beq f 8
def ownZB (_t _n : Nat) : Bool := false
noncomputable def TZ : Tab := ownS3 T ownZB keepsZ
theorem TZ_ok : TabOk Tryd.prog TZ := ownS3_ok T_ok
theorem xZ_ty : TZ.ty = T.ty := ownS3_ty
theorem xZ_fn : TZ.fn = T.fn := ownS3_fn
theorem xZ_bin : vbin TZ = vbin T := ownS3_bin
theorem xZ_oi : TZ.own = T.own := ownS3_own
theorem xZ_oc : ∀ t n, TZ.ownS t n = false := fun t n => by rw [TZ, ownS3_ownS]; rfl
theorem xZ_ok : TZ.ownS 0 0 = false := by rw [TZ, ownS3_ownS]; rfl
theorem xZ_keeps : TZ.keeps = keepsZ := ownS3_keeps
theorem stalls_k (M : Mem) : VC Tryd.prog 8 [] M (fun r M' => M' = M ∧ r = .sf 3 (vL.map puP)) := by
 refine VC_keep TZ_ok (f := 8) (fn := Tryd.f8) (by rw [xZ_fn]; kernel_rfl) rfl Tryd.ntmps8 (by rfl) (by rw [xZ_keeps]; rfl) ?_
 ((repeat refine Ws ?_);refine W_region0 TZ_ok ?_)
 simp (maxSteps := 1000000) only [xZ_ty, xZ_fn, xZ_bin, xZ_oi, xZ_oc, xZ_ok, VL,VM,↓VG,reduceIte,reduceCtorEq,zA,zB,zC,zD,zE,zF,zG,zH,zI,zJ]
 ((repeat refine Ws ?_);refine W_region0 TZ_ok ?_)
 simp (maxSteps := 1000000) only [xZ_ty, xZ_fn, xZ_bin, xZ_oi, xZ_oc, xZ_ok, VL,VM,↓VG,reduceIte,reduceCtorEq,zA,zB,zC,zD,zE,zF,zG,zH,zI,zJ]
 apply call_eq (f := 9) (fn := Tryd.f9) (by kernel_rfl) (by rfl)
 ·exact vat_v 0 0 0 _
 simp (maxSteps := 1000000) only [xZ_ty, xZ_fn, xZ_bin, xZ_oi, xZ_oc, xZ_ok, VL,VM,↓VG,reduceIte,reduceCtorEq,zA,zB,zC,zD,zE,zF,zG,zH,zI,zJ]
 apply call_eq (f := 9) (fn := Tryd.f9) (by kernel_rfl) (by rfl)
 ·exact vat_v 1 2 0 _
 simp (maxSteps := 1000000) only [xZ_ty, xZ_fn, xZ_bin, xZ_oi, xZ_oc, xZ_ok, VL,VM,↓VG,reduceIte,reduceCtorEq,zA,zB,zC,zD,zE,zF,zG,zH,zI,zJ]
 (repeat refine Ws ?_)
 exact W_ret ⟨.inr rfl, rfl, [.sf 3 (vL.map puP)], by simp [vresL, Tryd.f8, get_cons]; rfl, rfl, rfl⟩
end Go.Proofs.YtnjgdlmddlinaaaDoor.Vm

/- The law's own small check, by contracts. (Vm) -/
namespace Go.Proofs.YtnjgdlmddlinaaaDoor.Vm
open Go Go.Proofs
theorem awake_w (M : Mem) : VC Tryd.prog 5 [] M (fun r M' => M' = M ∧ r = vb true) := by
 refine VC_own' T_ok (f := 5) (fn := Tryd.f5) (by kernel_rfl) rfl Tryd.ntmps5 (by rfl) (by rfl) ?_
 ((repeat refine Ws ?_);refine W_regionE T_ok ?_; intro Kn hKn)
 ((simp (maxSteps := 1000000) only [VL,VM,↓VG,reduceIte,reduceCtorEq,zA,zB,zC,zD,zE,zF,zG,zH,zI,zJ]); rw [hKn];clear hKn Kn;simp only [QV,reduceIte,reduceCtorEq,Nat.reduceEqDiff])
 ((repeat refine Ws ?_);refine W_regionE T_ok ?_; intro Kn hKn)
 simp (maxSteps := 1000000) only [VL,VM,↓VG,reduceIte,reduceCtorEq,zA,zB,zC,zD,zE,zF,zG,zH,zI,zJ]
 apply call_eq (f := 4) (fn := Tryd.f4) (by kernel_rfl) (by rfl)
 ·exact hall_v _
 simp (maxSteps := 1000000) only [VL,VM,↓VG,reduceIte,reduceCtorEq,zA,zB,zC,zD,zE,zF,zG,zH,zI,zJ]
 apply call_eq (f := 8) (fn := Tryd.f8) (by kernel_rfl) (by rfl)
 ·exact stalls_v _
 simp (maxSteps := 1000000) only [VL,VM,↓VG,reduceIte,reduceCtorEq,zA,zB,zC,zD,zE,zF,zG,zH,zI,zJ]
 apply call_eq (f := 18) (fn := Tryd.f18) (by kernel_rfl) (by rfl)
 ·exact Loads_vm vH vL _ vH_fin (by decide)
 rw [vLoads, vL_err]
 ((simp (maxSteps := 1000000) only [VL,VM,↓VG,reduceIte,reduceCtorEq,zA,zB,zC,zD,zE,zF,zG,zH,zI,zJ]); rw [hKn];clear hKn Kn;simp only [QV,reduceIte,reduceCtorEq,Nat.reduceEqDiff])
 ((repeat refine Ws ?_);refine W_regionE T_ok ?_; intro Kn hKn)
 simp (maxSteps := 1000000) only [VL,VM,↓VG,reduceIte,reduceCtorEq,zA,zB,zC,zD,zE,zF,zG,zH,zI,zJ]
 apply call_eq (f := 4) (fn := Tryd.f4) (by kernel_rfl) (by rfl)
 ·exact hall_v _
 simp (maxSteps := 1000000) only [VL,VM,↓VG,reduceIte,reduceCtorEq,zA,zB,zC,zD,zE,zF,zG,zH,zI,zJ]
 apply call_eq (f := 9) (fn := Tryd.f9) (by kernel_rfl) (by rfl)
 ·exact vat_v 0 2 1 _
 simp (maxSteps := 1000000) only [VL,VM,↓VG,reduceIte,reduceCtorEq,zA,zB,zC,zD,zE,zF,zG,zH,zI,zJ]
 apply call_eq (f := 10) (fn := Tryd.f10) (by kernel_rfl) (by rfl)
 ·exact Bears_vm vH [⟨⟨2, 1⟩, 0⟩] _ vH_fin (by decide)
 rw [vO_bears, vO_err]
 ((simp (maxSteps := 1000000) only [VL,VM,↓VG,reduceIte,reduceCtorEq,zA,zB,zC,zD,zE,zF,zG,zH,zI,zJ]); rw [hKn];clear hKn Kn;simp only [QV,reduceIte,reduceCtorEq,Nat.reduceEqDiff])
 ((repeat refine Ws ?_);refine W_regionE T_ok ?_; intro Kn hKn)
 simp (maxSteps := 1000000) only [VL,VM,↓VG,reduceIte,reduceCtorEq,zA,zB,zC,zD,zE,zF,zG,zH,zI,zJ]
 apply call_eq (f := 4) (fn := Tryd.f4) (by kernel_rfl) (by rfl)
 ·exact hall_v _
 simp (maxSteps := 1000000) only [VL,VM,↓VG,reduceIte,reduceCtorEq,zA,zB,zC,zD,zE,zF,zG,zH,zI,zJ]
 apply call_eq (f := 13) (fn := Tryd.f13) (by kernel_rfl) (by rfl)
 ·exact best_vm vH _ vH_fin
 rw [vB, vB_err]
 ((simp (maxSteps := 1000000) only [VL,VM,↓VG,reduceIte,reduceCtorEq,zA,zB,zC,zD,zE,zF,zG,zH,zI,zJ]); rw [hKn];clear hKn Kn;simp only [QV,reduceIte,reduceCtorEq,Nat.reduceEqDiff])
 ((repeat refine Ws ?_);refine W_regionE T_ok ?_; intro Kn hKn)
 simp (maxSteps := 1000000) only [VL,VM,↓VG,reduceIte,reduceCtorEq,zA,zB,zC,zD,zE,zF,zG,zH,zI,zJ]
 apply call_eq (f := 17) (fn := Tryd.f17) (by kernel_rfl) (by rfl)
 ·exact vspan_v 200 300 _
 simp (maxSteps := 1000000) only [VL,VM,↓VG,reduceIte,reduceCtorEq,zA,zB,zC,zD,zE,zF,zG,zH,zI,zJ]
 apply call_eq (f := 17) (fn := Tryd.f17) (by kernel_rfl) (by rfl)
 ·exact vspan_v 100 150 _
 simp (maxSteps := 1000000) only [VL,VM,↓VG,reduceIte,reduceCtorEq,zA,zB,zC,zD,zE,zF,zG,zH,zI,zJ]
 apply call_eq (f := 19) (fn := Tryd.f19) (by kernel_rfl) (by rfl)
 ·exact sameSpans_v [⟨200, 300⟩, ⟨100, 150⟩, ⟨0, 0⟩, ⟨0, 0⟩] [⟨200, 300⟩, ⟨100, 150⟩, ⟨0, 0⟩, ⟨0, 0⟩] _ (by decide) (by decide)
 simp (maxSteps := 1000000) only [VL,VM,↓VG,reduceIte,reduceCtorEq,zA,zB,zC,zD,zE,zF,zG,zH,zI,zJ, eq_self, decide_true]
 apply call_eq (f := 9) (fn := Tryd.f9) (by kernel_rfl) (by rfl)
 ·exact vat_v 0 0 0 _
 simp (maxSteps := 1000000) only [VL,VM,↓VG,reduceIte,reduceCtorEq,zA,zB,zC,zD,zE,zF,zG,zH,zI,zJ]
 apply call_eq (f := 9) (fn := Tryd.f9) (by kernel_rfl) (by rfl)
 ·exact vat_v 1 2 0 _
 simp (maxSteps := 1000000) only [VL,VM,↓VG,reduceIte,reduceCtorEq,zA,zB,zC,zD,zE,zF,zG,zH,zI,zJ]
 apply call_eq (f := 9) (fn := Tryd.f9) (by kernel_rfl) (by rfl)
 ·exact vat_v 1 2 1 _
 simp (maxSteps := 1000000) only [VL,VM,↓VG,reduceIte,reduceCtorEq,zA,zB,zC,zD,zE,zF,zG,zH,zI,zJ]
 apply call_eq (f := 16) (fn := Tryd.f16) (by kernel_rfl) (by rfl)
 ·exact sameLayouts_v [⟨⟨0, 0⟩, 0⟩, ⟨⟨2, 0⟩, 1⟩, ⟨⟨2, 1⟩, 1⟩] [⟨⟨0, 0⟩, 0⟩, ⟨⟨2, 0⟩, 1⟩, ⟨⟨2, 1⟩, 1⟩] _ (by decide) (by decide)
 ((simp (maxSteps := 1000000) only [VL,VM,↓VG,reduceIte,reduceCtorEq,zA,zB,zC,zD,zE,zF,zG,zH,zI,zJ, eq_self, decide_true]); rw [hKn];clear hKn Kn;simp only [QV,reduceIte,reduceCtorEq,Nat.reduceEqDiff])
 (repeat refine Ws ?_)
 refine W_ret ?_
 try simp only [thenQ, blockQ]
 refine own_ret10 rfl ?_ (by rfl)
 simp only [get_cons, frz, vtup, Nat.reduceEqDiff, if_true, if_false, reduceIte]
end Go.Proofs.YtnjgdlmddlinaaaDoor.Vm
