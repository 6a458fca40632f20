/- A part of the proofs about the chapter of the ramps; it states no condition of its own. -/
import Derived.Test.YtmiiipdgbkipjaaGreatDoorB17
import Derived.Test.YtmiiipdgbkipjaaGreatDoorB21
import Derived.Test.YtmiiipdgbkipjaaGreatDoorB26
import Derived.Test.YtmiiipdgbkipjaaGreatDoorB29
set_option linter.unusedVariables false
set_option linter.unusedSimpArgs false
open Int renaming reduceLE → zA, reduceLT → zB, reduceToNat → zC, reduceNeg → zD
open Nat renaming reduceLT → zE, reduceEqDiff → zF, reduceAdd → zG, reduceSub → zH, reduceMul → zI, reduceLeDiff → zJ
/- Yards compared with themselves, on values. (Vm) -/
namespace Go.Proofs.YtmiiipdgbkipjaaGreatDoor.Vm
open Go Go.Proofs
theorem sameYards_v (y : Ya) (M : Mem) (hn : y.ramps.length ≤ 1000000) (hm : y.carts.length ≤ 1000000) (hl : ∀ c ∈ y.carts, c.ramps.length ≤ 1000000) : VC Tryz.prog 14 [yardV y, yardV y] M (fun r M' => M' = M ∧ r = vb true) := by
 refine VC_own' T_ok (f := 14) (fn := Tryz.f14) (by kernel_rfl) rfl Tryz.ntmps14 (by rfl) (by rfl) ?_
 ((repeat refine Ws ?_);refine W_regionE T_ok ?_; intro Kn hKn)
 ((simp (maxSteps := 1000000) only [VL,VM,↓VG,reduceIte,reduceCtorEq,zA,zB,zC,zD,zE,zF,zG,zH,zI,zJ]); rw [hKn];clear hKn Kn;simp only [QV,reduceIte,reduceCtorEq,Nat.reduceEqDiff])
 ((repeat refine Ws ?_);refine W_regionE T_ok ?_; intro Kn hKn)
 ((simp (maxSteps := 1000000) only [VL,VM,↓VG,reduceIte,reduceCtorEq,zA,zB,zC,zD,zE,zF,zG,zH,zI,zJ]); rw [hKn];clear hKn Kn;simp only [QV,reduceIte,reduceCtorEq,Nat.reduceEqDiff])
 ((repeat refine Ws ?_);refine W_regionE T_ok ?_; intro Kn hKn)
 ((simp (maxSteps := 1000000) only [VL,VM,↓VG,reduceIte,reduceCtorEq,zA,zB,zC,zD,zE,zF,zG,zH,zI,zJ]); rw [hKn];clear hKn Kn;simp only [QV,reduceIte,reduceCtorEq,Nat.reduceEqDiff])
 ((repeat refine Ws ?_);refine W_block ?_; (repeat refine Ws ?_)); refine W_loopS (fun i : Nat => [(2, .ptr M.H.length 0), (3, .ptr (M.H.length + 1) 0), (5, vb true), (6, vi i)]) (fun _ => ⟨M.H ++ [.obj (yardC y), .obj (yardC y)], M.lg⟩) (fun i => y.ramps.length - i) (fun i => i ≤ y.ramps.length) 0 (Nat.zero_le _) ⟨rfl, rfl, rfl, rfl, trivial⟩ rfl ?_
 intro i hi
 have k1 : -9223372036854775808 ≤ (i : Int) + 1 ∧ (i : Int) + 1 < 9223372036854775808 := by omega
 ((repeat refine Ws ?_);refine W_regionE T_ok ?_; intro Kn hKn)
 rcases Nat.lt_or_ge i y.ramps.length with hlt | hge
 ·have k2 : ((i : Int) < (y.ramps.length : Int)) = True := eq_true (by omega)
  have hx : y.ramps[i]? = some y.ramps[i] := List.getElem?_eq_getElem hlt
  generalize y.ramps[i] = x at hx
  have hx' := map_at (f := raP) hx
  have es : vbin T .eql 60 (raV x) (raV x) = some (vb true) := by rw [v_eqRamp]; simp
  ((simp (maxSteps := 1000000) only [VL,VM,↓VG,reduceIte,reduceCtorEq,zA,zB,zC,zD,zE,zF,zG,zH,zI,zJ, k2]); rw [hKn];clear hKn Kn;simp only [QV,reduceIte,reduceCtorEq,Nat.reduceEqDiff])
  ((repeat refine Ws ?_);refine Wt (by first|rfl|simp only [EV,zF,reduceIte]) ?_)
  (((repeat refine Ws ?_);refine W_skip ?_); simp only [QV,reduceIte,reduceCtorEq,Nat.reduceEqDiff])
  ((repeat refine Ws ?_);refine W_block ?_)
  ·skip
   (repeat refine Ws ?_)
   refine W_drawE T_ok [] (by kernel_rfl) (by kernel_rfl) ?_
   intro Kn hKn
   generalize hi : mkPlan _ = infs
   cbv at hi
   subst hi
   ((simp (maxSteps := 1000000) only [VL,VM,↓VG,reduceIte,reduceCtorEq,zA,zB,zC,zD,zE,zF,zG,zH,zI,zJ, hx', es]); rw [hKn];clear hKn Kn;simp only [QV,reduceIte,reduceCtorEq,Nat.reduceEqDiff])
   ((repeat refine Ws ?_);refine W_regionE T_ok ?_; intro Kn hKn)
   ((simp (maxSteps := 1000000) only [VL,VM,↓VG,reduceIte,reduceCtorEq,zA,zB,zC,zD,zE,zF,zG,zH,zI,zJ, k1]); rw [hKn];clear hKn Kn;simp only [QV,reduceIte,reduceCtorEq,Nat.reduceEqDiff])
   exact LoopK.mk (i + 1) (by omega) (by omega) ⟨rfl, rfl, rfl, rfl, trivial⟩ rfl
 have k2 : ((i : Int) < (y.ramps.length : Int)) = False := eq_false (by omega)
 ((simp (maxSteps := 1000000) only [VL,VM,↓VG,reduceIte,reduceCtorEq,zA,zB,zC,zD,zE,zF,zG,zH,zI,zJ, k2]); rw [hKn];clear hKn Kn;simp only [QV,reduceIte,reduceCtorEq,Nat.reduceEqDiff])
 ((repeat refine Ws ?_);refine Wf (by first|rfl|simp only [EV,zF,reduceIte]) ?_)
 (((repeat refine Ws ?_);refine W_exit ?_); simp only [QV,reduceIte,reduceCtorEq,Nat.reduceEqDiff])
 clear hge k2 k1 hi
 ((repeat refine Ws ?_);refine W_regionE T_ok ?_; intro Kn hKn)
 ((simp (maxSteps := 1000000) only [VL,VM,↓VG,reduceIte,reduceCtorEq,zA,zB,zC,zD,zE,zF,zG,zH,zI,zJ]); rw [hKn];clear hKn Kn;simp only [QV,reduceIte,reduceCtorEq,Nat.reduceEqDiff])
 ((repeat refine Ws ?_);refine W_block ?_; (repeat refine Ws ?_)); refine W_loopS (fun s : Nat × List VObj => [(2, .ptr M.H.length 0), (3, .ptr (M.H.length + 1) 0), (5, vb true), (7, vi s.1)]) (fun s => ⟨M.H ++ .obj (yardC y) :: .obj (yardC y) :: s.2, M.lg⟩) (fun s => y.carts.length - s.1) (fun s => s.1 ≤ y.carts.length) (0, []) (Nat.zero_le _) ⟨rfl, rfl, rfl, rfl, trivial⟩ rfl ?_
 rintro ⟨i, J⟩ hi
 simp only at hi
 have k1 : -9223372036854775808 ≤ (i : Int) + 1 ∧ (i : Int) + 1 < 9223372036854775808 := by omega
 ((repeat refine Ws ?_);refine W_regionE T_ok ?_; intro Kn hKn)
 rcases Nat.lt_or_ge i y.carts.length with hlt | hge
 ·have k2 : ((i : Int) < (y.carts.length : Int)) = True := eq_true (by omega)
  have hx : y.carts[i]? = some y.carts[i] := List.getElem?_eq_getElem hlt
  have hml := hl _ (List.getElem_mem hlt)
  generalize y.carts[i] = x at hx hml
  have hx' := map_at (f := ctP) hx
  have es : vbin T .eql 44 (spV x.takes) (spV x.takes) = some (vb true) := by rw [v_eqSpan]; simp
  ((simp (maxSteps := 1000000) only [VL,VM,↓VG,reduceIte,reduceCtorEq,zA,zB,zC,zD,zE,zF,zG,zH,zI,zJ, k2]); rw [hKn];clear hKn Kn;simp only [QV,reduceIte,reduceCtorEq,Nat.reduceEqDiff])
  ((repeat refine Ws ?_);refine Wt (by first|rfl|simp only [EV,zF,reduceIte]) ?_)
  (((repeat refine Ws ?_);refine W_skip ?_); simp only [QV,reduceIte,reduceCtorEq,Nat.reduceEqDiff])
  ((repeat refine Ws ?_);refine W_block ?_)
  ·skip
   (repeat refine Ws ?_)
   refine W_drawE T_ok [.obj [vi 0, vi 0, vi 0, vi 0, vi 0, .sf 0 []], .obj [vi 0, vi 0, vi 0, vi 0, vi 0, .sf 0 []]] (by kernel_rfl) (by kernel_rfl) ?_
   intro Kn hKn
   generalize hi : mkPlan _ = infs
   cbv at hi
   subst hi
   ((simp (maxSteps := 1000000) only [VL,VM,↓VG,reduceIte,reduceCtorEq,zA,zB,zC,zD,zE,zF,zG,zH,zI,zJ, hx', es]); rw [hKn];clear hKn Kn;simp only [QV,reduceIte,reduceCtorEq,Nat.reduceEqDiff])
   ((repeat refine Ws ?_);refine W_regionE T_ok ?_; intro Kn hKn)
   simp (maxSteps := 1000000) only [VL,VM,↓VG,reduceIte,reduceCtorEq,zA,zB,zC,zD,zE,zF,zG,zH,zI,zJ, hx', es]
   apply call_eq (f := 22) (fn := Tryz.f22) (by kernel_rfl) (by rfl)
   ·exact sameInts_v x.ramps x.ramps _ hml
   ((simp (maxSteps := 1000000) only [VL,VM,↓VG,reduceIte,reduceCtorEq,zA,zB,zC,zD,zE,zF,zG,zH,zI,zJ, eq_self, decide_true]); rw [hKn];clear hKn Kn;simp only [QV,reduceIte,reduceCtorEq,Nat.reduceEqDiff])
   ((repeat refine Ws ?_);refine W_regionE T_ok ?_; intro Kn hKn)
   ((simp (maxSteps := 1000000) only [VL,VM,↓VG,reduceIte,reduceCtorEq,zA,zB,zC,zD,zE,zF,zG,zH,zI,zJ, k1]); rw [hKn];clear hKn Kn;simp only [QV,reduceIte,reduceCtorEq,Nat.reduceEqDiff])
   exact LoopK.mk (i + 1, J ++ [.obj (ctC x), .obj (ctC x)]) (by simp only; omega) (by simp only; omega) ⟨rfl, rfl, rfl, rfl, trivial⟩ rfl
 have k2 : ((i : Int) < (y.carts.length : Int)) = False := eq_false (by omega)
 ((simp (maxSteps := 1000000) only [VL,VM,↓VG,reduceIte,reduceCtorEq,zA,zB,zC,zD,zE,zF,zG,zH,zI,zJ, k2]); rw [hKn];clear hKn Kn;simp only [QV,reduceIte,reduceCtorEq,Nat.reduceEqDiff])
 ((repeat refine Ws ?_);refine Wf (by first|rfl|simp only [EV,zF,reduceIte]) ?_)
 (((repeat refine Ws ?_);refine W_exit ?_); simp only [QV,reduceIte,reduceCtorEq,Nat.reduceEqDiff])
 ((repeat refine Ws ?_);refine W_regionE T_ok ?_; intro Kn hKn)
 ((simp (maxSteps := 1000000) only [VL,VM,↓VG,reduceIte,reduceCtorEq,zA,zB,zC,zD,zE,zF,zG,zH,zI,zJ]); rw [hKn];clear hKn Kn;simp only [QV,reduceIte,reduceCtorEq,Nat.reduceEqDiff])
 (repeat refine Ws ?_)
 refine W_ret ?_
 try simp only [thenQ, blockQ]
 refine own_ret1 rfl ?_ (by rfl)
 simp only [get_cons, frz, vtup, Nat.reduceEqDiff, if_true, if_false, reduceIte]
end Go.Proofs.YtmiiipdgbkipjaaGreatDoor.Vm

/- Slots copied, spans that hold, numbers brought within bounds. (Vm) -/
namespace Go.Proofs.YtmiiipdgbkipjaaGreatDoor.Vm
open Go Go.Proofs
theorem i_remt (t : Nat) (a b : Int) (hb : b ≠ 0) : vbin T .rem t (vi a) (vi b) = some (vi (a.tmod b)) := by
 have h2 : Go.binOp .rem 0 (.int .i64 a) (.int .i64 b) = .pure (.int .i64 (a.tmod b)) := by
  show Op.intDiv .rem .i64 a b = _
  unfold Op.intDiv
  rw [if_neg hb]
  rfl
 simp only [vbin, h2, pureOf, Option.map_some, ofValue]
def bringF (a n : Int) : Int := if n < 2 then 0 else if a.tmod n < 0 then a.tmod n + n else a.tmod n
theorem bring_v (a n : Int) (M : Mem) (hn : n ≤ 1000000000000) : VC Tryz.prog 35 [vi a, vi n] M (fun r M' => M' = M ∧ r = vi (bringF a n)) := by
 refine VC_own' T_ok (f := 35) (fn := Tryz.f35) (by kernel_rfl) rfl Tryz.ntmps35 (by rfl) (by rfl) ?_
 ((repeat refine Ws ?_);refine W_regionE T_ok ?_; intro Kn hKn)
 ((simp (maxSteps := 1000000) only [VL,VM,↓VG,reduceIte,reduceCtorEq,zA,zB,zC,zD,zE,zF,zG,zH,zI,zJ]); rw [hKn];clear hKn Kn;simp only [QV,reduceIte,reduceCtorEq,Nat.reduceEqDiff])
 ((repeat refine Ws ?_);refine W_regionE T_ok ?_; intro Kn hKn)
 by_cases h : n < 2
 ·((simp (maxSteps := 1000000) only [VL,VM,↓VG,reduceIte,reduceCtorEq,zA,zB,zC,zD,zE,zF,zG,zH,zI,zJ, h]); rw [hKn];clear hKn Kn;simp only [QV,reduceIte,reduceCtorEq,Nat.reduceEqDiff])
  ((repeat refine Ws ?_);refine Wt (by first|rfl|simp only [EV,zF,reduceIte]) ?_)
  ((repeat refine Ws ?_);refine W_regionE T_ok ?_; intro Kn hKn)
  ((simp (maxSteps := 1000000) only [VL,VM,↓VG,reduceIte,reduceCtorEq,zA,zB,zC,zD,zE,zF,zG,zH,zI,zJ]); rw [hKn];clear hKn Kn;simp only [QV,reduceIte,reduceCtorEq,Nat.reduceEqDiff])
  (repeat refine Ws ?_)
  refine W_ret ?_
  try simp only [thenQ, blockQ]
  refine own_ret10 rfl ?_ (by rfl)
  simp only [get_cons, frz, vtup, Nat.reduceEqDiff, if_true, if_false, reduceIte]
  rw [bringF, if_pos h]
 ·have hn0 : n ≠ 0 := by omega
  ((simp (maxSteps := 1000000) only [VL,VM,↓VG,reduceIte,reduceCtorEq,zA,zB,zC,zD,zE,zF,zG,zH,zI,zJ, h]); rw [hKn];clear hKn Kn;simp only [QV,reduceIte,reduceCtorEq,Nat.reduceEqDiff])
  ((repeat refine Ws ?_);refine Wf (by first|rfl|simp only [EV,zF,reduceIte]) ?_)
  (((repeat refine Ws ?_);refine W_skip ?_); simp only [QV,reduceIte,reduceCtorEq,Nat.reduceEqDiff])
  ((repeat refine Ws ?_);refine W_regionE T_ok ?_; intro Kn hKn)
  ((simp (maxSteps := 1000000) only [VL,VM,↓VG,reduceIte,reduceCtorEq,zA,zB,zC,zD,zE,zF,zG,zH,zI,zJ, i_remt _ _ _ hn0]); rw [hKn];clear hKn Kn;simp only [QV,reduceIte,reduceCtorEq,Nat.reduceEqDiff])
  ((repeat refine Ws ?_);refine W_regionE T_ok ?_; intro Kn hKn)
  by_cases hm : a.tmod n < 0
  ·have hlt : -n < a.tmod n := by
    have := Int.lt_tmod_of_pos a (show 0 < n by omega)
    omega
   have k1 : -9223372036854775808 ≤ a.tmod n + n ∧ a.tmod n + n < 9223372036854775808 := by omega
   ((simp (maxSteps := 1000000) only [VL,VM,↓VG,reduceIte,reduceCtorEq,zA,zB,zC,zD,zE,zF,zG,zH,zI,zJ, hm]); rw [hKn];clear hKn Kn;simp only [QV,reduceIte,reduceCtorEq,Nat.reduceEqDiff])
   ((repeat refine Ws ?_);refine Wt (by first|rfl|simp only [EV,zF,reduceIte]) ?_)
   ((repeat refine Ws ?_);refine W_regionE T_ok ?_; intro Kn hKn)
   ((simp (maxSteps := 1000000) only [VL,VM,↓VG,reduceIte,reduceCtorEq,zA,zB,zC,zD,zE,zF,zG,zH,zI,zJ, k1]); rw [hKn];clear hKn Kn;simp only [QV,reduceIte,reduceCtorEq,Nat.reduceEqDiff])
   (repeat refine Ws ?_)
   refine W_ret ?_
   try simp only [thenQ, blockQ]
   refine own_ret10 rfl ?_ (by rfl)
   simp only [get_cons, frz, vtup, Nat.reduceEqDiff, if_true, if_false, reduceIte]
   rw [bringF, if_neg h, if_pos hm]
  ·((simp (maxSteps := 1000000) only [VL,VM,↓VG,reduceIte,reduceCtorEq,zA,zB,zC,zD,zE,zF,zG,zH,zI,zJ, hm]); rw [hKn];clear hKn Kn;simp only [QV,reduceIte,reduceCtorEq,Nat.reduceEqDiff])
   ((repeat refine Ws ?_);refine Wf (by first|rfl|simp only [EV,zF,reduceIte]) ?_)
   (((repeat refine Ws ?_);refine W_skip ?_); simp only [QV,reduceIte,reduceCtorEq,Nat.reduceEqDiff])
   ((repeat refine Ws ?_);refine W_regionE T_ok ?_; intro Kn hKn)
   ((simp (maxSteps := 1000000) only [VL,VM,↓VG,reduceIte,reduceCtorEq,zA,zB,zC,zD,zE,zF,zG,zH,zI,zJ]); rw [hKn];clear hKn Kn;simp only [QV,reduceIte,reduceCtorEq,Nat.reduceEqDiff])
   (repeat refine Ws ?_)
   refine W_ret ?_
   try simp only [thenQ, blockQ]
   refine own_ret10 rfl ?_ (by rfl)
   simp only [get_cons, frz, vtup, Nat.reduceEqDiff, if_true, if_false, reduceIte]
   rw [bringF, if_neg h, if_neg hm]
end Go.Proofs.YtmiiipdgbkipjaaGreatDoor.Vm

/- A third table, in which slices of ramps are built as buffers of our own; the example yard in it. (Vm) -/
-- TABLE TS
namespace Go.Proofs.YtmiiipdgbkipjaaGreatDoor.Vm
open Go Go.Proofs
def ownSB (t : Nat) : Bool := Nat.beq t 22
def ownS2 (T : Tab) (o : Nat → Bool) : Tab := { T with ownS := o }
section
variable {P : Program} {T : Tab} {o : Nat → Bool}
theorem ownS2_ok (h : TabOk P T) : TabOk P (ownS2 T o) := ⟨h.ty, h.fn, h.mixed⟩
theorem ownS2_ty : (ownS2 T o).ty = T.ty := rfl
theorem ownS2_fn : (ownS2 T o).fn = T.fn := rfl
theorem ownS2_bin : vbin (ownS2 T o) = vbin T := rfl
theorem ownS2_own : (ownS2 T o).own = T.own := rfl
theorem ownS2_ownS : (ownS2 T o).ownS = o := rfl
theorem ownS2_keeps : (ownS2 T o).keeps = T.keeps := rfl
end
noncomputable def TS : Tab := ownS2 T ownSB
theorem TS_ok : TabOk Tryz.prog TS := ownS2_ok T_ok
theorem xS_ty : TS.ty = T.ty := ownS2_ty
theorem xS_fn : TS.fn = T.fn := ownS2_fn
theorem xS_bin : vbin TS = vbin T := ownS2_bin
theorem xS_oi : TS.own = T.own := ownS2_own
theorem xS_oc : TS.ownS 22 = true := by rw [TS, ownS2_ownS]; rfl
theorem xS_ok : TS.ownS 26 = false ∧ TS.ownS 23 = false := by rw [TS, ownS2_ownS]; exact ⟨rfl, rfl⟩
theorem xS_keeps (f : Nat) : TS.keeps f = T.keeps f := by rw [TS, ownS2_keeps]
theorem yard_own (M : Mem) : VC Tryz.prog 16 [] M (fun r M' => (∃ Y, M' = ⟨M.H ++ [.obj [.bf (M.H.length + 1) 0 2 3, ctsV aY.carts, vi 5], .obj [vi 0, vi 60, vi 900, vi 10, vi 40, vi 500]], M.lg ++ Y⟩ ∧ ∀ e ∈ Y, M.H.length ≤ e.1) ∧ r = .agg [.bf (M.H.length + 1) 0 2 3, ctsV aY.carts, vi 5]) := by
 refine VC_esc TS_ok (f := 16) (fn := Tryz.f16) (by rw [xS_fn]; kernel_rfl) rfl Tryz.ntmps16 (by rfl) (by rw [xS_keeps]; rfl) ?_
 ((repeat refine Ws ?_);refine W_regionE TS_ok ?_; intro Kn hKn)
 ((simp (maxSteps := 1000000) only [xS_ty, xS_fn, xS_bin, xS_oi, xS_oc, xS_ok, VL,VM,↓VG,reduceIte,reduceCtorEq,zA,zB,zC,zD,zE,zF,zG,zH,zI,zJ]); rw [hKn];clear hKn Kn;simp only [QV,reduceIte,reduceCtorEq,Nat.reduceEqDiff])
 ((repeat refine Ws ?_);refine W_regionE TS_ok ?_; intro Kn hKn)
 simp (maxSteps := 1000000) only [xS_ty, xS_fn, xS_bin, xS_oi, xS_oc, xS_ok, VL,VM,↓VG,reduceIte,reduceCtorEq,zA,zB,zC,zD,zE,zF,zG,zH,zI,zJ, S_buildOwn, vbuildOwn]
 apply call_eq (f := 44) (fn := Tryz.f44) (by kernel_rfl) (by rfl)
 ·exact span_v _ _ _
 simp (maxSteps := 1000000) only [xS_ty, xS_fn, xS_bin, xS_oi, xS_oc, xS_ok, VL,VM,↓VG,reduceIte,reduceCtorEq,zA,zB,zC,zD,zE,zF,zG,zH,zI,zJ]
 apply call_eq (f := 44) (fn := Tryz.f44) (by kernel_rfl) (by rfl)
 ·exact span_v _ _ _
 simp (maxSteps := 1000000) only [xS_ty, xS_fn, xS_bin, xS_oi, xS_oc, xS_ok, VL,VM,↓VG,reduceIte,reduceCtorEq,zA,zB,zC,zD,zE,zF,zG,zH,zI,zJ]
 apply call_eq (f := 44) (fn := Tryz.f44) (by kernel_rfl) (by rfl)
 ·exact span_v _ _ _
 ((simp (maxSteps := 1000000) only [xS_ty, xS_fn, xS_bin, xS_oi, xS_oc, xS_ok, VL,VM,↓VG,reduceIte,reduceCtorEq,zA,zB,zC,zD,zE,zF,zG,zH,zI,zJ]); rw [hKn];clear hKn Kn;simp only [QV,reduceIte,reduceCtorEq,Nat.reduceEqDiff])
 (repeat refine Ws ?_)
 refine W_ret ?_
 try simp only [thenQ, blockQ]
 obtain ⟨Y, hY, g⟩ := addLg_Y M.H.length [M.H.length + 1] M.lg
 rw [hY]
 refine ⟨.inr trivial, trivial, [.agg [.bf (M.H.length + 1) 0 2 3, ctsV aY.carts, vi 5]], ?_, ⟨M.H.length + 1, ?_, Nat.le_succ _⟩, ⟨Y, rfl, fun e he => ?_⟩, ?_⟩
 ·simp [vresL, Tryz.f16, get_cons, vload, xS_ty, t_yard, nat_ble, hget0, strip1]
  rfl
 ·simp [vtup, frz, frzL, refs, refsL, hget]
 ·rw [(g e he).1]; exact Nat.le_refl _
 ·rfl
end Go.Proofs.YtmiiipdgbkipjaaGreatDoor.Vm

/- The example's answers by the program, on values. (Vm) -/
namespace Go.Proofs.YtmiiipdgbkipjaaGreatDoor.Vm
open Go Go.Proofs
theorem aY_len : aY.ramps.length ≤ 1000000 ∧ aY.carts.length ≤ 1000000 ∧ ∀ c ∈ aY.carts, c.ramps.length ≤ 1000000 := by decide
theorem nY_len : nY.ramps.length ≤ 1000000 ∧ nY.carts.length ≤ 1000000 ∧ ∀ c ∈ nY.carts, c.ramps.length ≤ 1000000 := by decide
theorem narrow_v (M : Mem) : VC Tryz.prog 18 [] M (fun r M' => M' = M ∧ r = yardV nY) := by
 refine VC_own' T_ok (f := 18) (fn := Tryz.f18) (by kernel_rfl) rfl Tryz.ntmps18 (by rfl) (by rfl) ?_
 ((repeat refine Ws ?_);refine W_regionE T_ok ?_; intro Kn hKn)
 ((simp (maxSteps := 1000000) only [VL,VM,↓VG,reduceIte,reduceCtorEq,zA,zB,zC,zD,zE,zF,zG,zH,zI,zJ]); rw [hKn];clear hKn Kn;simp only [QV,reduceIte,reduceCtorEq,Nat.reduceEqDiff])
 ((repeat refine Ws ?_);refine Wr ?_)
 simp (maxSteps := 1000000) only [VL,VM,↓VG,reduceIte,reduceCtorEq,zA,zB,zC,zD,zE,zF,zG,zH,zI,zJ]
 refine fn_call (f := 16) (fn := Tryz.f16) (by kernel_rfl) (by rfl) ?_
 refine (yard_own _).mono ?_
 rintro _ _ ⟨⟨Y, rfl, hY⟩, rfl⟩
 simp (maxSteps := 1000000) only [VL,VM,↓VG,reduceIte,reduceCtorEq,zA,zB,zC,zD,zE,zF,zG,zH,zI,zJ]
 ((repeat refine Ws ?_);refine Wr ?_)
 simp (maxSteps := 1000000) only [VL,VM,↓VG,reduceIte,reduceCtorEq,zA,zB,zC,zD,zE,zF,zG,zH,zI,zJ]
 (repeat refine Ws ?_)
 refine W_frz1 (id := M.H.length + 2) (n := 2) (k := 3) (o := M.H.length + 3) (j := 0) (xs := nY.ramps.map raP) (by rw [hget]; rfl) (by rw [hget]; rfl) rfl (by simp) rfl (by omega) ?_
 simp only [hset, List.set_cons_succ, List.set_cons_zero]
 obtain ⟨Y2, hY2, g2⟩ := addLg_Y (M.H.length + 3) [M.H.length + 2] (M.lg ++ Y)
 rw [hY2, List.append_assoc]
 ((repeat refine Ws ?_);refine Wr ?_)
 simp (maxSteps := 1000000) only [VL,VM,↓VG,reduceIte,reduceCtorEq,zA,zB,zC,zD,zE,zF,zG,zH,zI,zJ]
 (repeat refine Ws ?_)
 refine W_ret ?_
 try simp only [thenQ, blockQ]
 refine own_retC (Z := yardV nY) (.inr rfl) (fun e he => ?_) rfl ?_ rfl rfl
 ·rcases List.mem_append.1 he with h | h
  ·have := hY e h
   simp only [List.length_append, List.length_cons, List.length_nil] at this
   omega
  ·rw [(g2 e h).1]; omega
 ·simp [vload, t_yard, get_cons, hget0, nat_ble, strip1]
  exact ⟨rfl, rfl⟩
theorem awake_v (M : Mem) : VC Tryz.prog 6 [] M (fun r M' => M' = M ∧ r = vb true) := by
 have sV : serveV aY = .tup [stsV [⟨0, 0⟩, ⟨1, 10⟩, ⟨0, 25⟩], vi 55, vi 0] := by rw [serveV, aY_serve]
 refine VC_own' T_ok (f := 6) (fn := Tryz.f6) (by kernel_rfl) rfl Tryz.ntmps6 (by rfl) (by rfl) ?_
 ((repeat refine Ws ?_);refine W_regionE T_ok ?_; intro Kn hKn)
 ((simp (maxSteps := 1000000) only [VL,VM,↓VG,reduceIte,reduceCtorEq,zA,zB,zC,zD,zE,zF,zG,zH,zI,zJ]); rw [hKn];clear hKn Kn;simp only [QV,reduceIte,reduceCtorEq,Nat.reduceEqDiff])
 ((repeat refine Ws ?_);refine W_regionE T_ok ?_; intro Kn hKn)
 simp (maxSteps := 1000000) only [VL,VM,↓VG,reduceIte,reduceCtorEq,zA,zB,zC,zD,zE,zF,zG,zH,zI,zJ]
 apply call_eq (f := 16) (fn := Tryz.f16) (by kernel_rfl) (by rfl)
 ·exact yard_v _
 simp (maxSteps := 1000000) only [VL,VM,↓VG,reduceIte,reduceCtorEq,zA,zB,zC,zD,zE,zF,zG,zH,zI,zJ]
 apply call_eq (f := 15) (fn := Tryz.f15) (by kernel_rfl) (by rfl)
 ·exact pserve_v aY _ aY_len.1 aY_len.2.1 aY_len.2.2
 rw [sV]
 ((simp (maxSteps := 1000000) only [VL,VM,↓VG,reduceIte,reduceCtorEq,zA,zB,zC,zD,zE,zF,zG,zH,zI,zJ]); rw [hKn];clear hKn Kn;simp only [QV,reduceIte,reduceCtorEq,Nat.reduceEqDiff])
 ((repeat refine Ws ?_);refine W_regionE T_ok ?_; intro Kn hKn)
 simp (maxSteps := 1000000) only [VL,VM,↓VG,reduceIte,reduceCtorEq,zA,zB,zC,zD,zE,zF,zG,zH,zI,zJ]
 apply call_eq (f := 18) (fn := Tryz.f18) (by kernel_rfl) (by rfl)
 ·exact narrow_v _
 simp (maxSteps := 1000000) only [VL,VM,↓VG,reduceIte,reduceCtorEq,zA,zB,zC,zD,zE,zF,zG,zH,zI,zJ]
 apply call_eq (f := 17) (fn := Tryz.f17) (by kernel_rfl) (by rfl)
 ·exact pstuck_v nY _ nY_len.1 nY_len.2.1 nY_len.2.2
 rw [nY_stuck]
 ((simp (maxSteps := 1000000) only [VL,VM,↓VG,reduceIte,reduceCtorEq,zA,zB,zC,zD,zE,zF,zG,zH,zI,zJ]); rw [hKn];clear hKn Kn;simp only [QV,reduceIte,reduceCtorEq,Nat.reduceEqDiff])
 ((repeat refine Ws ?_);refine W_regionE T_ok ?_; intro Kn hKn)
 simp (maxSteps := 1000000) only [VL,VM,↓VG,reduceIte,reduceCtorEq,zA,zB,zC,zD,zE,zF,zG,zH,zI,zJ]
 apply call_eq (f := 18) (fn := Tryz.f18) (by kernel_rfl) (by rfl)
 ·exact narrow_v _
 simp (maxSteps := 1000000) only [VL,VM,↓VG,reduceIte,reduceCtorEq,zA,zB,zC,zD,zE,zF,zG,zH,zI,zJ]
 apply call_eq (f := 19) (fn := Tryz.f19) (by kernel_rfl) (by rfl)
 ·exact pmost_v nY _ nY_len.1 nY_len.2.1 nY_len.2.2
 rw [nY_most]
 ((simp (maxSteps := 1000000) only [VL,VM,↓VG,reduceIte,reduceCtorEq,zA,zB,zC,zD,zE,zF,zG,zH,zI,zJ]); rw [hKn];clear hKn Kn;simp only [QV,reduceIte,reduceCtorEq,Nat.reduceEqDiff])
 ((repeat refine Ws ?_);refine W_regionE T_ok ?_; intro Kn hKn)
 simp (maxSteps := 1000000) only [VL,VM,↓VG,reduceIte,reduceCtorEq,zA,zB,zC,zD,zE,zF,zG,zH,zI,zJ]
 apply call_eq (f := 21) (fn := Tryz.f21) (by kernel_rfl) (by rfl)
 ·exact plan_v _
 simp (maxSteps := 1000000) only [VL,VM,↓VG,reduceIte,reduceCtorEq,zA,zB,zC,zD,zE,zF,zG,zH,zI,zJ]
 apply call_eq (f := 20) (fn := Tryz.f20) (by kernel_rfl) (by rfl)
 ·exact sameSlots_v [⟨0, 0⟩, ⟨1, 10⟩, ⟨0, 25⟩] [⟨0, 0⟩, ⟨1, 10⟩, ⟨0, 25⟩] _ (by decide)
 simp (maxSteps := 1000000) only [VL,VM,↓VG,reduceIte,reduceCtorEq,zA,zB,zC,zD,zE,zF,zG,zH,zI,zJ, eq_self, decide_true]
 apply call_eq (f := 22) (fn := Tryz.f22) (by kernel_rfl) (by rfl)
 ·exact sameInts_v [0, 1, 2] [0, 1, 2] _ (by decide)
 simp (maxSteps := 1000000) only [VL,VM,↓VG,reduceIte,reduceCtorEq,zA,zB,zC,zD,zE,zF,zG,zH,zI,zJ, eq_self, decide_true]
 apply call_eq (f := 22) (fn := Tryz.f22) (by kernel_rfl) (by rfl)
 ·exact sameInts_v [0, 1] [0, 1] _ (by decide)
 ((simp (maxSteps := 1000000) only [VL,VM,↓VG,reduceIte,reduceCtorEq,zA,zB,zC,zD,zE,zF,zG,zH,zI,zJ, eq_self, decide_true]); rw [hKn];clear hKn Kn;simp only [QV,reduceIte,reduceCtorEq,Nat.reduceEqDiff])
 (repeat refine Ws ?_)
 refine W_ret ?_
 try simp only [thenQ, blockQ]
 refine own_ret10 rfl ?_ (by rfl)
 simp only [get_cons, frz, vtup, Nat.reduceEqDiff, if_true, if_false, reduceIte]
end Go.Proofs.YtmiiipdgbkipjaaGreatDoor.Vm

/- Dice that show spans, on values. (Vm) -/
namespace Go.Proofs.YtmiiipdgbkipjaaGreatDoor.Vm
open Go Go.Proofs
def spA (u lo hi : Int) : Int := fromF u lo hi
def spL (u lo hi : Int) : List Int := [spA u lo hi, min hi (spA u lo hi + 4), hi]
def spU2 (u lo hi : Int) : Int := oneU (fromU u lo hi) (spL u lo hi)
def spB (u lo hi : Int) : Int := oneF (fromU u lo hi) (spL u lo hi)
def spC (u lo hi : Int) : Int := fromF (spU2 u lo hi) (spA u lo hi) (spB u lo hi)
def spU (u lo hi : Int) : Int := fromU (spU2 u lo hi) (spA u lo hi) (spB u lo hi)
theorem sp_range {u lo hi : Int} (h : lo ≤ hi) (h0 : 0 ≤ lo) (h2 : hi ≤ 100000000) : lo ≤ spA u lo hi ∧ spA u lo hi ≤ spB u lo hi ∧ spB u lo hi ≤ hi ∧ spA u lo hi ≤ spC u lo hi ∧ spC u lo hi ≤ hi := by
 have h1 := fromF_range (u := u) (lo := lo) (hi := hi) (by omega)
 have hm : spB u lo hi ∈ spL u lo hi := oneF_mem (by simp [spL]) (by simp [spL])
 have hA : lo ≤ spA u lo hi ∧ spA u lo hi ≤ hi := by unfold spA; omega
 have hB : spA u lo hi ≤ spB u lo hi ∧ spB u lo hi ≤ hi := by
  simp only [spL, List.mem_cons, List.not_mem_nil, or_false] at hm
  omega
 have h3 := fromF_range (u := spU2 u lo hi) (lo := spA u lo hi) (hi := spB u lo hi) (by omega)
 have hC : spA u lo hi ≤ spC u lo hi ∧ spC u lo hi ≤ spB u lo hi := by unfold spC; omega
 omega
theorem dspan_v {H0 : List VObj} {d : Nat} (hd : d < H0.length) (u lo hi : Int) (lg : List (Nat × Nat)) (h0 : 0 ≤ lo) (h1 : lo ≤ hi) (h2 : hi ≤ 100000000) : VC Tryz.prog 26 [.ptr d 0, vi lo, vi hi] ⟨DH H0 d u [], lg⟩ (fun r M' => M' = ⟨DH H0 d (spU u lo hi) [], lg⟩ ∧ r = spV ⟨spA u lo hi, spC u lo hi⟩) := by
 obtain ⟨b1, b2, b3, b4, b5⟩ := sp_range (u := u) h1 h0 h2
 have k1 : -9223372036854775808 ≤ spA u lo hi + 4 ∧ spA u lo hi + 4 < 9223372036854775808 := by omega
 refine VC_own' T_ok (f := 26) (fn := Tryz.f26) (by kernel_rfl) rfl Tryz.ntmps26 (by rfl) (by rfl) ?_
 ((repeat refine Ws ?_);refine Wr ?_)
 simp (maxSteps := 1000000) only [VL,VM,↓VG,reduceIte,reduceCtorEq,zA,zB,zC,zD,zE,zF,zG,zH,zI,zJ, DH_app hd, DH_len, DH_len0, DH_get hd, DH_get0 hd, DH_set hd, DH_set0 hd, DH_setd, DH_die hd]
 ((repeat refine Ws ?_);refine Wr ?_)
 simp (maxSteps := 1000000) only [VL,VM,↓VG,reduceIte,reduceCtorEq,zA,zB,zC,zD,zE,zF,zG,zH,zI,zJ, DH_app hd, DH_len, DH_len0, DH_get hd, DH_get0 hd, DH_set hd, DH_set0 hd, DH_setd, DH_die hd]
 apply call_eq (f := 25) (fn := Tryz.f25) (by kernel_rfl) (by rfl)
 ·exact from_c hd u lo hi lg (by omega) (by omega) (by omega) (by omega)
 simp (maxSteps := 1000000) only [VL,VM,↓VG,reduceIte,reduceCtorEq,zA,zB,zC,zD,zE,zF,zG,zH,zI,zJ, DH_app hd, DH_len, DH_len0, DH_get hd, DH_get0 hd, DH_set hd, DH_set0 hd, DH_setd, DH_die hd]
 ((repeat refine Ws ?_);refine Wr ?_)
 rw [show fromF u lo hi = spA u lo hi from rfl]
 simp (maxSteps := 1000000) only [VL,VM,↓VG,reduceIte,reduceCtorEq,zA,zB,zC,zD,zE,zF,zG,zH,zI,zJ, DH_app hd, DH_len, DH_len0, DH_get hd, DH_get0 hd, DH_set hd, DH_set0 hd, DH_setd, DH_die hd, k1]
 apply call_eq (f := 23) (fn := Tryz.f23) (by kernel_rfl) (by rfl)
 ·exact one_c hd (fromU u lo hi) (spL u lo hi) lg (by simp [spL]) (by simp [spL])
 simp (maxSteps := 1000000) only [VL,VM,↓VG,reduceIte,reduceCtorEq,zA,zB,zC,zD,zE,zF,zG,zH,zI,zJ, DH_app hd, DH_len, DH_len0, DH_get hd, DH_get0 hd, DH_set hd, DH_set0 hd, DH_setd, DH_die hd]
 ((repeat refine Ws ?_);refine Wr ?_)
 simp (maxSteps := 1000000) only [VL,VM,↓VG,reduceIte,reduceCtorEq,zA,zB,zC,zD,zE,zF,zG,zH,zI,zJ, DH_app hd, DH_len, DH_len0, DH_get hd, DH_get0 hd, DH_set hd, DH_set0 hd, DH_setd, DH_die hd]
 apply call_eq (f := 25) (fn := Tryz.f25) (by kernel_rfl) (by rfl)
 ·exact from_c hd (spU2 u lo hi) (spA u lo hi) (spB u lo hi) lg (by omega) (by omega) (by omega) (by omega)
 simp (maxSteps := 1000000) only [VL,VM,↓VG,reduceIte,reduceCtorEq,zA,zB,zC,zD,zE,zF,zG,zH,zI,zJ, DH_app hd, DH_len, DH_len0, DH_get hd, DH_get0 hd, DH_set hd, DH_set0 hd, DH_setd, DH_die hd]
 (repeat refine Ws ?_)
 refine W_ret ?_
 try simp only [thenQ, blockQ]
 refine own_retDc hd (.inr rfl) rfl (Y := spV ⟨spA u lo hi, spC u lo hi⟩) ?_ rfl rfl
 simp [vload, t_span, get_cons, DH_get0 hd, nat_ble, strip1]
 rfl
end Go.Proofs.YtmiiipdgbkipjaaGreatDoor.Vm

/- Yards made of numbers, as a function of the numbers, plain. (Vm) -/
namespace Go.Proofs.YtmiiipdgbkipjaaGreatDoor.Vm
open Go Go.Proofs
def halfM (m : Int) : Int := m / 2 + 1
def mostT3 (m : Int) : Int := max 1 (m / 3)
def rampS (m : Int) (s : Int × List Ra) : Int × List Ra :=
 let a := castF s.1 (halfM m)
 let v1 := castU s.1 (halfM m)
 let o := oneF v1 [0, a]
 let v2 := oneU v1 [0, a]
 let f := fromF v2 o m
 let v3 := fromU v2 o m
 let h := oneF v3 [m, f]
 let v4 := oneU v3 [m, f]
 (oneU v4 [50, 99], s.2 ++ [⟨o, h, oneF v4 [50, 99]⟩])
def rampsS (m u : Int) : Nat → Int × List Ra
 | 0 => (u, [])
 | n + 1 => rampS m (rampsS m u n)
def pickS (u : Int) : Nat → Int × List Int
 | 0 => (u, [])
 | k + 1 => (castU (pickS u k).1 4, if 0 < castF (pickS u k).1 4 then (pickS u k).2 ++ [(k : Int)] else (pickS u k).2)
def cartS (m : Int) (n : Nat) (s : Int × List Ct) : Int × List Ct :=
 let a := castF s.1 (halfM m)
 let v1 := castU s.1 (halfM m)
 let f := oneF v1 [0, a]
 let v2 := oneU v1 [0, a]
 let t := oneF v2 [3, mostT3 m]
 let v3 := oneU v2 [3, mostT3 m]
 let lo := spA v3 1 t
 let hi := spC v3 1 t
 let v4 := spU v3 1 t
 let g1 := castF v4 50
 let v5 := castU v4 50
 let g2 := castF v5 100
 let v6 := castU v5 100
 let g := oneF v6 [g1, g2]
 let v7 := oneU v6 [g1, g2]
 let w := fromF v7 f m
 let v8 := fromU v7 f m
 let un := oneF v8 [m, w]
 let v9 := oneU v8 [m, w]
 ((pickS v9 n).1, s.2 ++ [⟨f, un, ⟨lo, hi⟩, g, (pickS v9 n).2⟩])
def cartsS (m : Int) (n : Nat) (u : Int) : Nat → Int × List Ct
 | 0 => (u, [])
 | k + 1 => cartS m n (cartsS m n u k)
def yardS (u A B m : Int) : Ya × Int :=
 let s0 := castF u 4
 let v1 := castU u 4
 let sw := oneF v1 [0, 0, s0]
 let v2 := oneU v1 [0, 0, s0]
 let r := rampsS m (fromU v2 1 A) (fromF v2 1 A).toNat
 let c := cartsS m r.2.length (castU r.1 (B + 1)) (castF r.1 (B + 1)).toNat
 (⟨r.2, c.2, sw⟩, c.1)
theorem one2 {u a b : Int} : oneF u [a, b] = a ∨ oneF u [a, b] = b := by
 have := oneF_mem (u := u) (xs := [a, b]) (by simp) (by simp)
 simpa using this
theorem one3 {u a b c : Int} : oneF u [a, b, c] = a ∨ oneF u [a, b, c] = b ∨ oneF u [a, b, c] = c := by
 have := oneF_mem (u := u) (xs := [a, b, c]) (by simp) (by simp)
 simpa using this
theorem halfM_bd {m : Int} (h : 4 ≤ m) : 1 ≤ halfM m ∧ halfM m ≤ m := by
 unfold halfM
 omega
theorem mostT3_bd {m : Int} (h : 4 ≤ m) : 1 ≤ mostT3 m ∧ mostT3 m ≤ m := by
 unfold mostT3
 omega
structure RaM (m : Int) (r : Ra) : Prop where
 o0 : 0 ≤ r.open_
 os : r.open_ ≤ r.shut
 s1 : r.shut ≤ m
 b0 : 0 ≤ r.bears
 b1 : r.bears ≤ 99
structure CtM (nr : Nat) (m : Int) (c : Ct) : Prop where
 f0 : 0 ≤ c.from_
 fu : c.from_ ≤ c.until_
 u1 : c.until_ ≤ m
 l0 : 1 ≤ c.takes.lo
 lh : c.takes.lo ≤ c.takes.hi
 h1 : c.takes.hi ≤ m
 g0 : 0 ≤ c.grams
 g1 : c.grams ≤ 99
 r : ∀ x ∈ c.ramps, 0 ≤ x ∧ x < nr
 asc : c.ramps.Pairwise (· < ·)
structure MadeY (A B m : Int) (y : Ya) : Prop where
 n0 : 1 ≤ y.ramps.length
 n1 : (y.ramps.length : Int) ≤ A
 ra : ∀ r ∈ y.ramps, RaM m r
 m1 : (y.carts.length : Int) ≤ B
 ct : ∀ c ∈ y.carts, CtM y.ramps.length m c
 s0 : 0 ≤ y.sweep
 s1 : y.sweep ≤ 3
theorem MadeY.V {A B m : Int} {y : Ya} (h : MadeY A B m y) (hA : A ≤ 3) (hB : B ≤ 7) (hm : m ≤ 480) : YaV y := by
 have h1 := h.n1
 have h2 := h.m1
 have h3 := h.s1
 refine ⟨h.n0, by omega, fun r hr => ?_, by omega, fun c hc => ?_, h.s0, by omega⟩
 ·have k := h.ra r hr
  have k1 := k.s1
  have k2 := k.b1
  exact ⟨k.o0, k.os, by omega, k.b0, by omega⟩
 ·have k := h.ct c hc
  have k1 := k.u1
  have k2 := k.h1
  have k3 := k.g1
  exact ⟨k.f0, k.fu, by omega, k.l0, k.lh, by omega, k.g0, by omega, k.r, k.asc⟩
theorem rampS_bd {m : Int} (hm : 4 ≤ m ∧ m ≤ 480) {s : Int × List Ra} (h : ∀ r ∈ s.2, RaM m r) : (rampS m s).2.length = s.2.length + 1 ∧ ∀ r ∈ (rampS m s).2, RaM m r := by
 have hh := halfM_bd hm.1
 have c1 := castF_range (u := s.1) (n := halfM m) (by omega)
 unfold rampS
 dsimp only
 generalize castF s.1 (halfM m) = a at c1 ⊢
 generalize castU s.1 (halfM m) = v1
 have o1 := one2 (u := v1) (a := 0) (b := a)
 generalize oneF v1 [0, a] = o at o1 ⊢
 generalize oneU v1 [0, a] = v2
 have f1 := fromF_range (u := v2) (lo := o) (hi := m) (by omega)
 generalize fromF v2 o m = f at f1 ⊢
 generalize fromU v2 o m = v3
 have o2 := one2 (u := v3) (a := m) (b := f)
 generalize oneF v3 [m, f] = g at o2 ⊢
 generalize oneU v3 [m, f] = v4
 have o3 := one2 (u := v4) (a := 50) (b := 99)
 generalize oneF v4 [50, 99] = b at o3 ⊢
 refine ⟨by rw [List.length_append]; rfl, fun r hr => ?_⟩
 rcases List.mem_append.1 hr with hr | hr
 ·exact h r hr
 ·rw [List.mem_singleton] at hr
  subst hr
  refine ⟨?_, ?_, ?_, ?_, ?_⟩ <;> simp only <;> omega
theorem rampsS_bd {m : Int} (hm : 4 ≤ m ∧ m ≤ 480) (u : Int) : ∀ n, (rampsS m u n).2.length = n ∧ ∀ r ∈ (rampsS m u n).2, RaM m r
 | 0 => ⟨rfl, fun _ h => nomatch h⟩
 | n + 1 => by
  obtain ⟨h1, h2⟩ := rampsS_bd hm u n
  obtain ⟨h3, h4⟩ := rampS_bd hm h2
  exact ⟨by rw [rampsS, h3, h1], h4⟩
theorem pickS_bd (u : Int) : ∀ n : Nat, (pickS u n).2.length ≤ n ∧ (∀ x ∈ (pickS u n).2, 0 ≤ x ∧ x < (n : Int)) ∧ (pickS u n).2.Pairwise (· < ·)
 | 0 => ⟨Nat.le_refl 0, ⟨fun x h => (by cases h), List.Pairwise.nil⟩⟩
 | n + 1 => by
  obtain ⟨h1, h2, h3⟩ := pickS_bd u n
  rw [pickS]
  split
  ·refine ⟨by rw [List.length_append]; simp; omega, fun x hx => ?_, ?_⟩
   ·rcases List.mem_append.1 hx with hx | hx
    ·have := h2 x hx; omega
    ·rw [List.mem_singleton] at hx; subst hx; omega
   ·rw [List.pairwise_append]
    refine ⟨h3, List.pairwise_singleton _ _, fun a ha b hb => ?_⟩
    rw [List.mem_singleton] at hb
    subst hb
    exact (h2 a ha).2
  ·exact ⟨by simp only; omega, fun x hx => (by have := h2 x hx; omega), h3⟩
theorem cartS_bd {m : Int} {n : Nat} (hm : 4 ≤ m ∧ m ≤ 480) {s : Int × List Ct} (h : ∀ c ∈ s.2, CtM n m c) : (cartS m n s).2.length = s.2.length + 1 ∧ ∀ c ∈ (cartS m n s).2, CtM n m c := by
 have hh := halfM_bd hm.1
 have h3 := mostT3_bd hm.1
 have c1 := castF_range (u := s.1) (n := halfM m) (by omega)
 unfold cartS
 dsimp only
 generalize castF s.1 (halfM m) = a at c1 ⊢
 generalize castU s.1 (halfM m) = v1
 have o1 := one2 (u := v1) (a := 0) (b := a)
 generalize oneF v1 [0, a] = f at o1 ⊢
 generalize oneU v1 [0, a] = v2
 have o2 := one2 (u := v2) (a := 3) (b := mostT3 m)
 generalize oneF v2 [3, mostT3 m] = t at o2 ⊢
 generalize oneU v2 [3, mostT3 m] = v3
 obtain ⟨p1, p2, p3, p4, p5⟩ := sp_range (u := v3) (lo := 1) (hi := t) (by omega) (by omega) (by omega)
 generalize spA v3 1 t = lo at p1 p2 p4 ⊢
 generalize spB v3 1 t = mid at p2 p3
 generalize spC v3 1 t = hi at p4 p5 ⊢
 generalize spU v3 1 t = v4
 have c2 := castF_range (u := v4) (n := 50) (by omega)
 generalize castF v4 50 = g1 at c2 ⊢
 generalize castU v4 50 = v5
 have c3 := castF_range (u := v5) (n := 100) (by omega)
 generalize castF v5 100 = g2 at c3 ⊢
 generalize castU v5 100 = v6
 have o3 := one2 (u := v6) (a := g1) (b := g2)
 generalize oneF v6 [g1, g2] = g at o3 ⊢
 generalize oneU v6 [g1, g2] = v7
 have f1 := fromF_range (u := v7) (lo := f) (hi := m) (by omega)
 generalize fromF v7 f m = w at f1 ⊢
 generalize fromU v7 f m = v8
 have o4 := one2 (u := v8) (a := m) (b := w)
 generalize oneF v8 [m, w] = un at o4 ⊢
 generalize oneU v8 [m, w] = v9
 obtain ⟨q1, q2, q3⟩ := pickS_bd v9 n
 refine ⟨by rw [List.length_append]; rfl, fun r hr => ?_⟩
 rcases List.mem_append.1 hr with hr | hr
 ·exact h r hr
 ·rw [List.mem_singleton] at hr
  subst hr
  refine ⟨?_, ?_, ?_, ?_, ?_, ?_, ?_, ?_, q2, q3⟩ <;> simp only <;> omega
theorem cartsS_bd {m : Int} {n : Nat} (hm : 4 ≤ m ∧ m ≤ 480) (u : Int) : ∀ k, (cartsS m n u k).2.length = k ∧ ∀ c ∈ (cartsS m n u k).2, CtM n m c
 | 0 => ⟨rfl, fun _ h => nomatch h⟩
 | k + 1 => by
  obtain ⟨h1, h2⟩ := cartsS_bd (n := n) hm u k
  obtain ⟨h3, h4⟩ := cartS_bd hm h2
  exact ⟨by rw [cartsS, h3, h1], h4⟩
theorem yardS_made {u A B m : Int} (hA : 1 ≤ A ∧ A ≤ 3) (hB : 0 ≤ B ∧ B ≤ 7) (hm : 4 ≤ m ∧ m ≤ 480) : MadeY A B m (yardS u A B m).1 := by
 have c1 := castF_range (u := u) (n := 4) (by omega)
 unfold yardS
 dsimp only
 generalize castF u 4 = s0 at c1 ⊢
 generalize castU u 4 = v1
 have o1 := one3 (u := v1) (a := 0) (b := 0) (c := s0)
 generalize oneF v1 [0, 0, s0] = sw at o1 ⊢
 generalize oneU v1 [0, 0, s0] = v2
 have f1 := fromF_range (u := v2) (lo := 1) (hi := A) (by omega)
 generalize fromF v2 1 A = w at f1 ⊢
 generalize fromU v2 1 A = v3
 obtain ⟨h1, h2⟩ := rampsS_bd hm v3 w.toNat
 generalize rampsS m v3 w.toNat = r at h1 h2 ⊢
 have c2 := castF_range (u := r.1) (n := B + 1) (by omega)
 generalize castF r.1 (B + 1) = z at c2 ⊢
 generalize castU r.1 (B + 1) = v4
 obtain ⟨h3, h4⟩ := cartsS_bd (n := r.2.length) hm v4 z.toNat
 generalize cartsS m r.2.length v4 z.toNat = c at h3 h4 ⊢
 refine ⟨?_, ?_, h2, ?_, h4, ?_, ?_⟩ <;> simp only <;> omega
end Go.Proofs.YtmiiipdgbkipjaaGreatDoor.Vm
