/- A part of the proofs about the chapter of the ramps; it states no condition of its own. -/
import Derived.Test.YthcicaelnchfdaaB16
import Derived.Test.YthcicaelnchfdaaB17
import Derived.Test.YthcicaelnchfdaaB19
import Derived.Test.YthcicaelnchfdaaB23
set_option linter.unusedVariables false
set_option linter.unusedSimpArgs false
open Int renaming reduceLE → zA, reduceLT → zB, reduceToNat → zC, reduceNeg → zD
open Nat renaming reduceLT → zE, reduceEqDiff → zF, reduceAdd → zG, reduceSub → zH, reduceMul → zI, reduceLeDiff → zJ
/- Sets of carts, on values. (Vm) -/
namespace Go.Proofs.Ythcicaelnchfdaa.Vm
open Go Go.Proofs
section
variable (t a : Nat)
theorem u8_and1 (ha : a < 256) : vbin T .and t (su a) (.p (.int .u8 1)) = some (su (a &&& 1)) := u8_and t a 1 ha (by decide)
theorem u8_eql1 : vbin T .eql t (su a) (.p (.int .u8 1)) = some (vb (decide (a = 1))) := u8_eql t a 1
theorem u8_gtr0 : vbin T .gtr t (su a) (.p (.int .u8 0)) = some (vb (decide (0 < a))) := u8_gtr t a 0
theorem u8_shl1 (c : Nat) (hc : c ≤ 7) : vbin T .shl t (.p (.int .u8 1)) (vi c) = some (su (2 ^ c)) := u8_shl t c hc
theorem u8_add1 (h : a + 1 < 256) : vbin T .add t (su a) (.p (.int .u8 1)) = some (su (a + 1)) := u8_add t a 1 h
theorem u8_sub1 (h : 1 ≤ a) (ha : a < 256) : vbin T .sub t (su a) (.p (.int .u8 1)) = some (su (a - 1)) := u8_sub t a 1 h ha
end
theorem bit_eq (s c : Nat) : decide ((s >>> c) &&& 1 = 1) = s.testBit c := by
 rw [Nat.testBit_eq_decide_div_mod_eq, Nat.and_one_is_mod, Nat.shiftRight_eq_div_pow]
theorem has_v (s c : Nat) (M : Mem) (hs : s < 256) (hc : c ≤ 8) : VC Try.prog 90 [su s, vi c] M (fun r M' => M' = M ∧ r = vb (s.testBit c)) := by
 have h1 : s >>> c < 256 := by
  rw [Nat.shiftRight_eq_div_pow]
  exact Nat.lt_of_le_of_lt (Nat.div_le_self _ _) hs
 refine VC_own' T_ok (f := 90) (fn := Try.f90) (by kernel_rfl) rfl Try.ntmps90 (by rfl) (by rfl) ?_
 ((repeat refine Ws ?_);refine W_regionE T_ok ?_; intro Kn hKn)
 ((simp (maxSteps := 1000000) only [VL,VM,↓VG,reduceIte,reduceCtorEq,zA,zB,zC,zD,zE,zF,zG,zH,zI,zJ]); rw [hKn];clear hKn Kn;simp only [QV,reduceIte,reduceCtorEq,Nat.reduceEqDiff])
 ((repeat refine Ws ?_);refine W_regionE T_ok ?_; intro Kn hKn)
 ((simp (maxSteps := 1000000) only [VL,VM,↓VG,reduceIte,reduceCtorEq,zA,zB,zC,zD,zE,zF,zG,zH,zI,zJ, u8_shr, hc, u8_and1, h1, u8_eql1, bit_eq]); rw [hKn];clear hKn Kn;simp only [QV,reduceIte,reduceCtorEq,Nat.reduceEqDiff])
 (repeat refine Ws ?_)
 refine W_ret ?_
 try simp only [thenQ, blockQ]
 refine own_ret10 rfl ?_ (by rfl)
 simp only [get_cons, frz, vtup, Nat.reduceEqDiff, if_true, if_false, reduceIte]
theorem one_s (c : Nat) (M : Mem) (hc : c ≤ 7) : VC Try.prog 63 [vi c] M (fun r M' => M' = M ∧ r = su (2 ^ c)) := by
 refine VC_own' T_ok (f := 63) (fn := Try.f63) (by kernel_rfl) rfl Try.ntmps63 (by rfl) (by rfl) ?_
 ((repeat refine Ws ?_);refine W_regionE T_ok ?_; intro Kn hKn)
 ((simp (maxSteps := 1000000) only [VL,VM,↓VG,reduceIte,reduceCtorEq,zA,zB,zC,zD,zE,zF,zG,zH,zI,zJ]); rw [hKn];clear hKn Kn;simp only [QV,reduceIte,reduceCtorEq,Nat.reduceEqDiff])
 ((repeat refine Ws ?_);refine W_regionE T_ok ?_; intro Kn hKn)
 ((simp (maxSteps := 1000000) only [VL,VM,↓VG,reduceIte,reduceCtorEq,zA,zB,zC,zD,zE,zF,zG,zH,zI,zJ, u8_shl1, hc]); rw [hKn];clear hKn Kn;simp only [QV,reduceIte,reduceCtorEq,Nat.reduceEqDiff])
 (repeat refine Ws ?_)
 refine W_ret ?_
 try simp only [thenQ, blockQ]
 refine own_ret10 rfl ?_ (by rfl)
 simp only [get_cons, frz, vtup, Nat.reduceEqDiff, if_true, if_false, reduceIte]
theorem list_s (s : Nat) (M : Mem) (hs : s < 128) : VC Try.prog 66 [su s] M (fun r M' => M' = M ∧ r = intsV ((bitsL s).map Int.ofNat)) := by
 have hs2 : s < 256 := by omega
 have hlen : ∀ i ≤ 7, ((List.range i).filter fun i => s.testBit i).length ≤ 7 := fun i hi => Nat.le_trans (List.length_filter_le _ _) (by simpa using hi)
 refine VC_own' T_ok (f := 66) (fn := Try.f66) (by kernel_rfl) rfl Try.ntmps66 (by rfl) (by rfl) ?_
 ((repeat refine Ws ?_);refine W_regionE T_ok ?_; intro Kn hKn)
 ((simp (maxSteps := 1000000) only [VL,VM,↓VG,reduceIte,reduceCtorEq,zA,zB,zC,zD,zE,zF,zG,zH,zI,zJ]); rw [hKn];clear hKn Kn;simp only [QV,reduceIte,reduceCtorEq,Nat.reduceEqDiff])
 ((repeat refine Ws ?_);refine W_regionE T_ok ?_; intro Kn hKn)
 ((simp (maxSteps := 1000000) only [VL,VM,↓VG,reduceIte,reduceCtorEq,zA,zB,zC,zD,zE,zF,zG,zH,zI,zJ]); rw [hKn];clear hKn Kn;simp only [QV,reduceIte,reduceCtorEq,Nat.reduceEqDiff])
 (repeat refine Ws ?_)
 refine W_tok (t := 3) (k := 1) rfl ?_
 ((repeat refine Ws ?_);refine W_regionE T_ok ?_; intro Kn hKn)
 ((simp (maxSteps := 1000000) only [VL,VM,↓VG,reduceIte,reduceCtorEq,zA,zB,zC,zD,zE,zF,zG,zH,zI,zJ]); rw [hKn];clear hKn Kn;simp only [QV,reduceIte,reduceCtorEq,Nat.reduceEqDiff])
 ((repeat refine Ws ?_);refine W_block ?_; (repeat refine Ws ?_)); refine W_loopS (fun i : Nat => [(0, su s), (3, .so M.H.length 1 ((((List.range i).filter fun i => s.testBit i).map Int.ofNat).map intP)), (5, vi i)]) (fun i => ⟨M.H ++ [.clm ((List.range i).filter fun i => s.testBit i).length 1], M.lg⟩) (fun i => 7 - i) (fun i => i ≤ 7) 0 (by decide) ⟨rfl, rfl, rfl, trivial⟩ rfl ?_
 intro i hi
 have k1 : -9223372036854775808 ≤ (i : Int) + 1 ∧ (i : Int) + 1 < 9223372036854775808 := by omega
 have hr : (List.range (i + 1)).filter (fun i => s.testBit i) = (List.range i).filter (fun i => s.testBit i) ++ if s.testBit i then [i] else [] := by
  rw [List.range_succ, List.filter_append]
  congr 1
  cases h : s.testBit i <;> simp [h]
 have hl := hlen i hi
 ((repeat refine Ws ?_);refine W_regionE T_ok ?_; intro Kn hKn)
 rcases Nat.lt_or_ge i 7 with hlt | hge
 ·have k2 : ((i : Int) < 7) = True := eq_true (by omega)
  have q1 : ((((List.range i).filter fun i => s.testBit i).length + 1) * 8 ≤ 140737488355328) = True := eq_true (by omega)
  generalize (List.range i).filter (fun i => s.testBit i) = l at hr q1 ⊢
  ((simp (maxSteps := 1000000) only [VL,VM,↓VG,reduceIte,reduceCtorEq,zA,zB,zC,zD,zE,zF,zG,zH,zI,zJ, k2]); rw [hKn];clear hKn Kn;simp only [QV,reduceIte,reduceCtorEq,Nat.reduceEqDiff])
  ((repeat refine Ws ?_);refine Wt (by first|rfl|simp only [EV,zF,reduceIte]) ?_)
  (((repeat refine Ws ?_);refine W_skip ?_); simp only [QV,reduceIte,reduceCtorEq,Nat.reduceEqDiff])
  ((repeat refine Ws ?_);refine W_block ?_)
  ((repeat refine Ws ?_);refine W_regionE T_ok ?_; intro Kn hKn)
  ((simp (maxSteps := 1000000) only [VL,VM,↓VG,reduceIte,reduceCtorEq,zA,zB,zC,zD,zE,zF,zG,zH,zI,zJ]); rw [hKn];clear hKn Kn;simp only [QV,reduceIte,reduceCtorEq,Nat.reduceEqDiff])
  ((repeat refine Ws ?_);refine W_regionE T_ok ?_; intro Kn hKn)
  simp (maxSteps := 1000000) only [VL,VM,↓VG,reduceIte,reduceCtorEq,zA,zB,zC,zD,zE,zF,zG,zH,zI,zJ]
  apply call_eq (f := 90) (fn := Try.f90) (by kernel_rfl) (by rfl)
  ·exact has_v s i _ hs2 (by omega)
  ((simp (maxSteps := 1000000) only [VL,VM,↓VG,reduceIte,reduceCtorEq,zA,zB,zC,zD,zE,zF,zG,zH,zI,zJ]); rw [hKn];clear hKn Kn;simp only [QV,reduceIte,reduceCtorEq,Nat.reduceEqDiff])
  cases hb : s.testBit i
  ·rw [hb] at hr
   simp only [Bool.false_eq_true, if_false, List.append_nil] at hr
   ((repeat refine Ws ?_);refine Wf (by first|rfl|simp only [EV,zF,reduceIte]) ?_)
   (((repeat refine Ws ?_);refine W_skip ?_); simp only [QV,reduceIte,reduceCtorEq,Nat.reduceEqDiff])
   ((repeat refine Ws ?_);refine W_regionE T_ok ?_; intro Kn hKn)
   ((simp (maxSteps := 1000000) only [VL,VM,↓VG,reduceIte,reduceCtorEq,zA,zB,zC,zD,zE,zF,zG,zH,zI,zJ, k1]); rw [hKn];clear hKn Kn;simp only [QV,reduceIte,reduceCtorEq,Nat.reduceEqDiff])
   exact LoopK.mk (i + 1) (by omega) (by omega) ⟨rfl, by rw [hr]; rfl, rfl, trivial⟩ (by rw [hr])
  ·rw [hb] at hr
   simp only [if_true] at hr
   ((repeat refine Ws ?_);refine Wt (by first|rfl|simp only [EV,zF,reduceIte]) ?_)
   ((repeat refine Ws ?_);refine W_regionE T_ok ?_; intro Kn hKn)
   ((simp (maxSteps := 1000000) only [VL,VM,↓VG,reduceIte,reduceCtorEq,zA,zB,zC,zD,zE,zF,zG,zH,zI,zJ, q1]); rw [hKn];clear hKn Kn;simp only [QV,reduceIte,reduceCtorEq,Nat.reduceEqDiff])
   ((repeat refine Ws ?_);refine W_regionE T_ok ?_; intro Kn hKn)
   ((simp (maxSteps := 1000000) only [VL,VM,↓VG,reduceIte,reduceCtorEq,zA,zB,zC,zD,zE,zF,zG,zH,zI,zJ, k1]); rw [hKn];clear hKn Kn;simp only [QV,reduceIte,reduceCtorEq,Nat.reduceEqDiff])
   exact LoopK.mk (i + 1) (by omega) (by omega) ⟨rfl, by rw [hr]; simp [get_cons], rfl, trivial⟩ (by rw [hr]; simp)
 ·have k2 : ((i : Int) < 7) = False := eq_false (by omega)
  obtain rfl : i = 7 := by omega
  ((simp (maxSteps := 1000000) only [VL,VM,↓VG,reduceIte,reduceCtorEq,zA,zB,zC,zD,zE,zF,zG,zH,zI,zJ, k2]); rw [hKn];clear hKn Kn;simp only [QV,reduceIte,reduceCtorEq,Nat.reduceEqDiff])
  ((repeat refine Ws ?_);refine Wf (by first|rfl|simp only [EV,zF,reduceIte]) ?_)
  (((repeat refine Ws ?_);refine W_exit ?_); simp only [QV,reduceIte,reduceCtorEq,Nat.reduceEqDiff])
  ((repeat refine Ws ?_);refine W_regionE T_ok ?_; intro Kn hKn)
  ((simp (maxSteps := 1000000) only [VL,VM,↓VG,reduceIte,reduceCtorEq,zA,zB,zC,zD,zE,zF,zG,zH,zI,zJ]); rw [hKn];clear hKn Kn;simp only [QV,reduceIte,reduceCtorEq,Nat.reduceEqDiff])
  (repeat refine Ws ?_)
  refine W_ret ?_
  try simp only [thenQ, blockQ]
  refine own_ret1 rfl ?_ (by rfl)
  simp only [get_cons, frz, vtup, Nat.reduceEqDiff, if_true, if_false, reduceIte]
  rfl
set_option maxRecDepth 100000 in
theorem ones_v (s : Nat) (M : Mem) (hs : s < 128) : VC Try.prog 91 [.p (.int .u8 s)] M (fun r M' => M' = M ∧ r = vi ((bitsL s).length : Nat)) := by
 refine VC_own' T_ok (f := 91) (fn := Try.f91) (by kernel_rfl) rfl Try.ntmps91 (by rfl) (by rfl) ?_
 generalize hB : (ByteArray.mk _) = B
 have hall : ∀ n < 128, B[n]? = some (UInt8.ofNat (bitsL n).length) := by
  rw [← hB]
  decide +kernel
 have h1 := hall s hs
 have h2 := bitsL_len (s := s)
 have h3 : (UInt8.ofNat (bitsL s).length).toNat = (bitsL s).length := by
  rw [UInt8.toNat_ofNat']
  omega
 have h4 : vconvert T 5 3 (.p (.int .u8 (((bitsL s).length : Nat) : Int))) = some (vi ((bitsL s).length : Nat)) := by
  simp only [vconvert, t_u8, t_int]
  have : Conv.intToInt .i64 (((bitsL s).length : Nat) : Int) = .pure (.int .i64 (IntKind.i64.wrap ((bitsL s).length : Nat))) := rfl
  rw [this, IntWalk.i64_in _ (by omega)]
  rfl
 ((repeat refine Ws ?_);refine W_regionE T_ok ?_; intro Kn hKn)
 ((simp (maxSteps := 1000000) only [VL,VM,↓VG,reduceIte,reduceCtorEq,zA,zB,zC,zD,zE,zF,zG,zH,zI,zJ]); rw [hKn];clear hKn Kn;simp only [QV,reduceIte,reduceCtorEq,Nat.reduceEqDiff])
 ((repeat refine Ws ?_);refine W_regionE T_ok ?_; intro Kn hKn)
 ((simp (maxSteps := 1000000) only [VL,VM,↓VG,reduceIte,reduceCtorEq,zA,zB,zC,zD,zE,zF,zG,zH,zI,zJ, idx_su, h1, h3, h4]); rw [hKn];clear hKn Kn;simp only [QV,reduceIte,reduceCtorEq,Nat.reduceEqDiff])
 (repeat refine Ws ?_)
 refine W_ret ?_
 try simp only [thenQ, blockQ]
 refine own_ret10 rfl ?_ (by rfl)
 simp only [get_cons, frz, vtup, Nat.reduceEqDiff, if_true, if_false, reduceIte]
theorem many_v (s : Nat) (M : Mem) (hs : s < 128) : VC Try.prog 65 [su s] M (fun r M' => M' = M ∧ r = vi ((bitsL s).length : Nat)) := by
 refine VC_own' T_ok (f := 65) (fn := Try.f65) (by kernel_rfl) rfl Try.ntmps65 (by rfl) (by rfl) ?_
 ((repeat refine Ws ?_);refine W_regionE T_ok ?_; intro Kn hKn)
 ((simp (maxSteps := 1000000) only [VL,VM,↓VG,reduceIte,reduceCtorEq,zA,zB,zC,zD,zE,zF,zG,zH,zI,zJ]); rw [hKn];clear hKn Kn;simp only [QV,reduceIte,reduceCtorEq,Nat.reduceEqDiff])
 ((repeat refine Ws ?_);refine W_regionE T_ok ?_; intro Kn hKn)
 simp (maxSteps := 1000000) only [VL,VM,↓VG,reduceIte,reduceCtorEq,zA,zB,zC,zD,zE,zF,zG,zH,zI,zJ]
 apply call_eq (f := 91) (fn := Try.f91) (by kernel_rfl) (by rfl)
 ·exact ones_v s _ hs
 ((simp (maxSteps := 1000000) only [VL,VM,↓VG,reduceIte,reduceCtorEq,zA,zB,zC,zD,zE,zF,zG,zH,zI,zJ]); rw [hKn];clear hKn Kn;simp only [QV,reduceIte,reduceCtorEq,Nat.reduceEqDiff])
 (repeat refine Ws ?_)
 refine W_ret ?_
 try simp only [thenQ, blockQ]
 refine own_ret10 rfl ?_ (by rfl)
 simp only [get_cons, frz, vtup, Nat.reduceEqDiff, if_true, if_false, reduceIte]
end Go.Proofs.Ythcicaelnchfdaa.Vm

/- Whether a cart may stand on a ramp, on values. (Vm) -/
namespace Go.Proofs.Ythcicaelnchfdaa.Vm
open Go Go.Proofs
def wkC (l : List (Nat × Nat)) : List VV := (l.map fun w => [su w.1, su w.2]).flatten
theorem wkC_len : ∀ l : List (Nat × Nat), (wkC l).length = l.length * 2
 | [] => rfl
 | w :: l => by
  have := wkC_len l
  simp only [wkC, List.map_cons, List.flatten_cons, List.length_append] at this ⊢
  simp only [this, List.length_cons, List.length_nil]
  omega
theorem wkC_get {l : List (Nat × Nat)} {i : Nat} (h : i < l.length) : (wkC l)[i * 2]? = some (su (l.getD i (0, 0)).1) ∧ (wkC l)[i * 2 + 1]? = some (su (l.getD i (0, 0)).2) := by
 have hk : ∀ x ∈ l.map (fun w => [su w.1, su w.2]), x.length = 2 := fun x hx => by obtain ⟨z, _, rfl⟩ := List.mem_map.1 hx; rfl
 have hg : (l.map fun w => [su w.1, su w.2])[i]? = some [su (l.getD i (0, 0)).1, su (l.getD i (0, 0)).2] := by simp [h]
 unfold wkC
 have h0 := flat_get (i := i) (j := 0) hk hg (by omega)
 have h1 := flat_get (i := i) (j := 1) hk hg (by omega)
 exact ⟨h0, h1⟩
def ryC (R : Ry) : List VV := yardC R.y ++ (wkC R.wk ++ (R.frm.map vi ++ [vi R.til]))
abbrev ryV (R : Ry) : VV := .agg (ryC R)
section
variable {R : Ry} (h : RyOk R)
include h
theorem ry_len : (ryC R).length = 17 := by
 have := wkC_len R.wk
 have := h.wl
 have := h.fl
 simp [ryC]; omega
omit h in
theorem ry_0 : (ryC R)[0]? = some (rasV R.y.ramps) := rfl
omit h in
theorem ry_1 : (ryC R)[1]? = some (ctsV R.y.carts) := rfl
omit h in
theorem ry_2 : (ryC R)[2]? = some (vi R.y.sweep) := rfl
theorem ry_m {r : Nat} (hr : r < 3) : (ryC R)[3 + r * 2]? = some (su (mustAt R r)) := by
 have hl := wkC_len R.wk
 have hw := h.wl
 unfold ryC
 rw [List.getElem?_append_right (by simp), List.getElem?_append_left (by simp; omega)]
 rw [show 3 + r * 2 - (yardC R.y).length = r * 2 by simp]
 exact (wkC_get (by omega)).1
theorem ry_n {r : Nat} (hr : r < 3) : (ryC R)[3 + (r * 2 + 1)]? = some (su (notAt R r)) := by
 have hl := wkC_len R.wk
 have hw := h.wl
 unfold ryC
 rw [List.getElem?_append_right (by simp), List.getElem?_append_left (by simp; omega)]
 rw [show 3 + (r * 2 + 1) - (yardC R.y).length = r * 2 + 1 by simp]
 exact (wkC_get (by omega)).2
theorem ry_f {c : Nat} (hc : c < 7) : (ryC R)[9 + c]? = some (vi (frmAt R c)) := by
 have hl := wkC_len R.wk
 have hw := h.wl
 have hf := h.fl
 unfold ryC
 rw [List.getElem?_append_right (by simp; omega), List.getElem?_append_right (by simp; omega), List.getElem?_append_left (by simp; omega)]
 rw [show 9 + c - (yardC R.y).length - (wkC R.wk).length = c by simp; omega]
 have : c < R.frm.length := by omega
 simp [frmAt, this]
theorem ry_t : (ryC R)[16]? = some (vi R.til) := by
 have hl := wkC_len R.wk
 have hw := h.wl
 have hf := h.fl
 unfold ryC
 rw [List.getElem?_append_right (by simp), List.getElem?_append_right (by simp; omega), List.getElem?_append_right (by simp; omega)]
 rw [show 16 - (yardC R.y).length - (wkC R.wk).length - (R.frm.map vi).length = 0 by simp; omega]
 rfl
omit h in
theorem ry_plain : ∀ v ∈ ryC R, isCell v = true ∧ strip1 v = v := by
 intro v hv
 unfold ryC wkC at hv
 rcases List.mem_append.1 hv with hv | hv
 ·simp only [yardC, List.mem_cons, List.not_mem_nil, or_false] at hv
  rcases hv with rfl | rfl | rfl <;> exact ⟨rfl, rfl⟩
 ·rcases List.mem_append.1 hv with hv | hv
  ·obtain ⟨l, hl, hv⟩ := List.mem_flatten.1 hv
   obtain ⟨w, _, rfl⟩ := List.mem_map.1 hl
   simp only [List.mem_cons, List.not_mem_nil, or_false] at hv
   rcases hv with rfl | rfl <;> exact ⟨rfl, rfl⟩
  ·rcases List.mem_append.1 hv with hv | hv
   ·obtain ⟨w, _, rfl⟩ := List.mem_map.1 hv
    exact ⟨rfl, rfl⟩
   ·rw [List.mem_singleton] at hv
    subst hv
    exact ⟨rfl, rfl⟩
omit h in
theorem ry_cells : (ryC R).all isCell = true := List.all_eq_true.2 fun v hv => (ry_plain v hv).1
omit h in
theorem ry_strip : (ryC R).map strip1 = ryC R := by
 conv => rhs; rw [← List.map_id (ryC R)]
 exact List.map_congr_left fun v hv => (ry_plain v hv).2
theorem ry_take : (ryC R).take 17 = ryC R := List.take_of_length_le (by rw [ry_len h]; exact Nat.le_refl _)
theorem ry_le : (17 ≤ (ryC R).length) = True := eq_true (by rw [ry_len h]; exact Nat.le_refl _)
end
set_option maxHeartbeats 1000000 in
theorem may_v {R : Ry} (hR : RyOk R) (c r : Nat) (M : Mem) (hc : c < R.y.carts.length) (hr : r < R.y.ramps.length) : VC Try.prog 64 [ryV R, vi c, vi r] M (fun x M' => M' = M ∧ x = vb (mayB R c r)) := by
 have hm7 := hR.y.m1
 have hn3 := hR.y.n1
 have hcv := hR.y.ct _ (ctAt_mem hc)
 have hlen := asc_len hcv.asc (a := 0) (b := R.y.ramps.length) hcv.r
 have hrl : (ctAt R.y c).ramps.length ≤ 1000000 := by omega
 have hc8 : c ≤ 8 := by omega
 have hn256 : notAt R r < 256 := by have := (hR.w r).2; omega
 have hr3 : r < 3 := by omega
 have hy' := map_at (f := ctP) (ctAt_get hc)
 have hz' := map_at (f := raP) (raAt_get (y := R.y) (r := (r : Int)) (by omega) (by omega))
 rw [Int.toNat_natCast] at hz'
 have hnot := (hR.w r).2
 have e0 : mayB R c r = mayB R c r := rfl
 conv at e0 => rhs; unfold mayB rAt
 refine VC_own' T_ok (f := 64) (fn := Try.f64) (by kernel_rfl) rfl Try.ntmps64 (by rfl) (by rfl) ?_
 ((repeat refine Ws ?_);refine W_regionE T_ok ?_; intro Kn hKn)
 ((simp (maxSteps := 1000000) only [VL,VM,↓VG,reduceIte,reduceCtorEq,zA,zB,zC,zD,zE,zF,zG,zH,zI,zJ, ry_cells]); rw [hKn];clear hKn Kn;simp only [QV,reduceIte,reduceCtorEq,Nat.reduceEqDiff])
 ((repeat refine Ws ?_);refine W_regionE T_ok ?_; intro Kn hKn)
 ((simp (maxSteps := 1000000) only [VL,VM,↓VG,reduceIte,reduceCtorEq,zA,zB,zC,zD,zE,zF,zG,zH,zI,zJ, ry_1, hy']); rw [hKn];clear hKn Kn;simp only [QV,reduceIte,reduceCtorEq,Nat.reduceEqDiff])
 by_cases h1 : (r : Int) ∈ (ctAt R.y c).ramps
 ·by_cases h2 : (ctAt R.y c).grams ≤ (raAt R.y r).bears
  ·skip
   (repeat refine Ws ?_)
   refine W_drawE T_ok [] (by kernel_rfl) (by kernel_rfl) ?_
   intro Kn hKn
   generalize hi : mkPlan _ = infs
   cbv at hi
   subst hi
   simp (maxSteps := 1000000) only [VL,VM,↓VG,reduceIte,reduceCtorEq,zA,zB,zC,zD,zE,zF,zG,zH,zI,zJ]
   apply call_d (f := 86) (fn := Try.f86) (by kernel_rfl) (by rfl)
   ·exact contains_v (ctAt R.y c).ramps r _ hrl
   simp (maxSteps := 1000000) only [VL,VM,↓VG,reduceIte,reduceCtorEq,zA,zB,zC,zD,zE,zF,zG,zH,zI,zJ, h1, ry_0, hz', h2, ry_n hR hr3, hr3]
   apply call_d (f := 90) (fn := Try.f90) (by kernel_rfl) (by rfl)
   ·exact has_v (notAt R r) c _ hn256 hc8
   ((simp (maxSteps := 1000000) only [VL,VM,↓VG,reduceIte,reduceCtorEq,zA,zB,zC,zD,zE,zF,zG,zH,zI,zJ]); rw [hKn];clear hKn Kn;simp only [QV,reduceIte,reduceCtorEq,Nat.reduceEqDiff])
   (repeat refine Ws ?_)
   refine W_ret ?_
   try simp only [thenQ, blockQ]
   refine own_ret1 rfl ?_ (by rfl)
   simp only [get_cons, frz, vtup, Nat.reduceEqDiff, if_true, if_false, reduceIte]
   rw [e0]
   simp [h1, h2]
  ·skip
   (repeat refine Ws ?_)
   refine W_drawE T_ok [] (by kernel_rfl) (by kernel_rfl) ?_
   intro Kn hKn
   generalize hi : mkPlan _ = infs
   cbv at hi
   subst hi
   simp (maxSteps := 1000000) only [VL,VM,↓VG,reduceIte,reduceCtorEq,zA,zB,zC,zD,zE,zF,zG,zH,zI,zJ]
   apply call_d (f := 86) (fn := Try.f86) (by kernel_rfl) (by rfl)
   ·exact contains_v (ctAt R.y c).ramps r _ hrl
   ((simp (maxSteps := 1000000) only [VL,VM,↓VG,reduceIte,reduceCtorEq,zA,zB,zC,zD,zE,zF,zG,zH,zI,zJ, h1, ry_0, hz', h2]); rw [hKn];clear hKn Kn;simp only [QV,reduceIte,reduceCtorEq,Nat.reduceEqDiff])
   (repeat refine Ws ?_)
   refine W_ret ?_
   try simp only [thenQ, blockQ]
   refine own_ret1 rfl ?_ (by rfl)
   simp only [get_cons, frz, vtup, Nat.reduceEqDiff, if_true, if_false, reduceIte]
   rw [e0]
   simp [h1, h2]
 ·skip
  (repeat refine Ws ?_)
  refine W_drawE T_ok [] (by kernel_rfl) (by kernel_rfl) ?_
  intro Kn hKn
  generalize hi : mkPlan _ = infs
  cbv at hi
  subst hi
  simp (maxSteps := 1000000) only [VL,VM,↓VG,reduceIte,reduceCtorEq,zA,zB,zC,zD,zE,zF,zG,zH,zI,zJ]
  apply call_d (f := 86) (fn := Try.f86) (by kernel_rfl) (by rfl)
  ·exact contains_v (ctAt R.y c).ramps r _ hrl
  ((simp (maxSteps := 1000000) only [VL,VM,↓VG,reduceIte,reduceCtorEq,zA,zB,zC,zD,zE,zF,zG,zH,zI,zJ, h1]); rw [hKn];clear hKn Kn;simp only [QV,reduceIte,reduceCtorEq,Nat.reduceEqDiff])
  (repeat refine Ws ?_)
  refine W_ret ?_
  try simp only [thenQ, blockQ]
  refine own_ret1 rfl ?_ (by rfl)
  simp only [get_cons, frz, vtup, Nat.reduceEqDiff, if_true, if_false, reduceIte]
  rw [e0]
  simp [h1]
end Go.Proofs.Ythcicaelnchfdaa.Vm
