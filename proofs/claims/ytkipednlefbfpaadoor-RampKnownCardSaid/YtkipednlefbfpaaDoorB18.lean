/- A part of the proofs about the chapter of the ramps; it states no condition of its own. -/
import Derived.Test.YtkipednlefbfpaaDoorB16
import Derived.Test.YtkipednlefbfpaaDoorB17
set_option linter.unusedVariables false
set_option linter.unusedSimpArgs false
open Int renaming reduceLE → zA, reduceLT → zB, reduceToNat → zC, reduceNeg → zD
open Nat renaming reduceLT → zE, reduceEqDiff → zF, reduceAdd → zG, reduceSub → zH, reduceMul → zI, reduceLeDiff → zJ
/- Sets of carts, on values. (Vm) -/
namespace Go.Proofs.YtkipednlefbfpaaDoor.Vm
open Go Go.Proofs
section
variable (t a : Nat)
theorem u8_and1 (ha : a < 256) : vbin T .and t (su a) (.p (.int .u8 1)) = some (su (a &&& 1)) := u8_and t a 1 ha (by decide)
theorem u8_eql1 : vbin T .eql t (su a) (.p (.int .u8 1)) = some (vb (decide (a = 1))) := u8_eql t a 1
theorem u8_gtr0 : vbin T .gtr t (su a) (.p (.int .u8 0)) = some (vb (decide (0 < a))) := u8_gtr t a 0
theorem u8_shl1 (c : Nat) (hc : c ≤ 7) : vbin T .shl t (.p (.int .u8 1)) (vi c) = some (su (2 ^ c)) := u8_shl t c hc
theorem u8_add1 (h : a + 1 < 256) : vbin T .add t (su a) (.p (.int .u8 1)) = some (su (a + 1)) := u8_add t a 1 h
theorem u8_sub1 (h : 1 ≤ a) (ha : a < 256) : vbin T .sub t (su a) (.p (.int .u8 1)) = some (su (a - 1)) := u8_sub t a 1 h ha
end
theorem bit_eq (s c : Nat) : decide ((s >>> c) &&& 1 = 1) = s.testBit c := by
 rw [Nat.testBit_eq_decide_div_mod_eq, Nat.and_one_is_mod, Nat.shiftRight_eq_div_pow]
theorem has_v (s c : Nat) (M : Mem) (hs : s < 256) (hc : c ≤ 8) : VC Tryd.prog 51 [su s, vi c] M (fun r M' => M' = M ∧ r = vb (s.testBit c)) := by
 have h1 : s >>> c < 256 := by
  rw [Nat.shiftRight_eq_div_pow]
  exact Nat.lt_of_le_of_lt (Nat.div_le_self _ _) hs
 refine VC_own' T_ok (f := 51) (fn := Tryd.f51) (by kernel_rfl) rfl Tryd.ntmps51 (by rfl) (by rfl) ?_
 ((repeat refine Ws ?_);refine W_regionE T_ok ?_; intro Kn hKn)
 ((simp (maxSteps := 1000000) only [VL,VM,↓VG,reduceIte,reduceCtorEq,zA,zB,zC,zD,zE,zF,zG,zH,zI,zJ]); rw [hKn];clear hKn Kn;simp only [QV,reduceIte,reduceCtorEq,Nat.reduceEqDiff])
 ((repeat refine Ws ?_);refine W_regionE T_ok ?_; intro Kn hKn)
 ((simp (maxSteps := 1000000) only [VL,VM,↓VG,reduceIte,reduceCtorEq,zA,zB,zC,zD,zE,zF,zG,zH,zI,zJ, u8_shr, hc, u8_and1, h1, u8_eql1, bit_eq]); rw [hKn];clear hKn Kn;simp only [QV,reduceIte,reduceCtorEq,Nat.reduceEqDiff])
 (repeat refine Ws ?_)
 refine W_ret ?_
 try simp only [thenQ, blockQ]
 refine own_ret10 rfl ?_ (by rfl)
 simp only [get_cons, frz, vtup, Nat.reduceEqDiff, if_true, if_false, reduceIte]
theorem one_s (c : Nat) (M : Mem) (hc : c ≤ 7) : VC Tryd.prog 39 [vi c] M (fun r M' => M' = M ∧ r = su (2 ^ c)) := by
 refine VC_own' T_ok (f := 39) (fn := Tryd.f39) (by kernel_rfl) rfl Tryd.ntmps39 (by rfl) (by rfl) ?_
 ((repeat refine Ws ?_);refine W_regionE T_ok ?_; intro Kn hKn)
 ((simp (maxSteps := 1000000) only [VL,VM,↓VG,reduceIte,reduceCtorEq,zA,zB,zC,zD,zE,zF,zG,zH,zI,zJ]); rw [hKn];clear hKn Kn;simp only [QV,reduceIte,reduceCtorEq,Nat.reduceEqDiff])
 ((repeat refine Ws ?_);refine W_regionE T_ok ?_; intro Kn hKn)
 ((simp (maxSteps := 1000000) only [VL,VM,↓VG,reduceIte,reduceCtorEq,zA,zB,zC,zD,zE,zF,zG,zH,zI,zJ, u8_shl1, hc]); rw [hKn];clear hKn Kn;simp only [QV,reduceIte,reduceCtorEq,Nat.reduceEqDiff])
 (repeat refine Ws ?_)
 refine W_ret ?_
 try simp only [thenQ, blockQ]
 refine own_ret10 rfl ?_ (by rfl)
 simp only [get_cons, frz, vtup, Nat.reduceEqDiff, if_true, if_false, reduceIte]
theorem list_s (s : Nat) (M : Mem) (hs : s < 128) : VC Tryd.prog 29 [su s] M (fun r M' => M' = M ∧ r = intsV ((bitsL s).map Int.ofNat)) := by
 have hs2 : s < 256 := by omega
 have hlen : ∀ i ≤ 7, ((List.range i).filter fun i => s.testBit i).length ≤ 7 := fun i hi => Nat.le_trans (List.length_filter_le _ _) (by simpa using hi)
 refine VC_own' T_ok (f := 29) (fn := Tryd.f29) (by kernel_rfl) rfl Tryd.ntmps29 (by rfl) (by rfl) ?_
 ((repeat refine Ws ?_);refine W_regionE T_ok ?_; intro Kn hKn)
 ((simp (maxSteps := 1000000) only [VL,VM,↓VG,reduceIte,reduceCtorEq,zA,zB,zC,zD,zE,zF,zG,zH,zI,zJ]); rw [hKn];clear hKn Kn;simp only [QV,reduceIte,reduceCtorEq,Nat.reduceEqDiff])
 ((repeat refine Ws ?_);refine W_regionE T_ok ?_; intro Kn hKn)
 ((simp (maxSteps := 1000000) only [VL,VM,↓VG,reduceIte,reduceCtorEq,zA,zB,zC,zD,zE,zF,zG,zH,zI,zJ]); rw [hKn];clear hKn Kn;simp only [QV,reduceIte,reduceCtorEq,Nat.reduceEqDiff])
 (repeat refine Ws ?_)
 refine W_tok (t := 3) (k := 1) rfl ?_
 ((repeat refine Ws ?_);refine W_regionE T_ok ?_; intro Kn hKn)
 ((simp (maxSteps := 1000000) only [VL,VM,↓VG,reduceIte,reduceCtorEq,zA,zB,zC,zD,zE,zF,zG,zH,zI,zJ]); rw [hKn];clear hKn Kn;simp only [QV,reduceIte,reduceCtorEq,Nat.reduceEqDiff])
 ((repeat refine Ws ?_);refine W_block ?_; (repeat refine Ws ?_)); refine W_loopS (fun i : Nat => [(0, su s), (3, .so M.H.length 1 ((((List.range i).filter fun i => s.testBit i).map Int.ofNat).map intP)), (5, vi i)]) (fun i => ⟨M.H ++ [.clm ((List.range i).filter fun i => s.testBit i).length 1], M.lg⟩) (fun i => 7 - i) (fun i => i ≤ 7) 0 (by decide) ⟨rfl, rfl, rfl, trivial⟩ rfl ?_
 intro i hi
 have k1 : -9223372036854775808 ≤ (i : Int) + 1 ∧ (i : Int) + 1 < 9223372036854775808 := by omega
 have hr : (List.range (i + 1)).filter (fun i => s.testBit i) = (List.range i).filter (fun i => s.testBit i) ++ if s.testBit i then [i] else [] := by
  rw [List.range_succ, List.filter_append]
  congr 1
  cases h : s.testBit i <;> simp [h]
 have hl := hlen i hi
 ((repeat refine Ws ?_);refine W_regionE T_ok ?_; intro Kn hKn)
 rcases Nat.lt_or_ge i 7 with hlt | hge
 ·have k2 : ((i : Int) < 7) = True := eq_true (by omega)
  have q1 : ((((List.range i).filter fun i => s.testBit i).length + 1) * 8 ≤ 140737488355328) = True := eq_true (by omega)
  generalize (List.range i).filter (fun i => s.testBit i) = l at hr q1 ⊢
  ((simp (maxSteps := 1000000) only [VL,VM,↓VG,reduceIte,reduceCtorEq,zA,zB,zC,zD,zE,zF,zG,zH,zI,zJ, k2]); rw [hKn];clear hKn Kn;simp only [QV,reduceIte,reduceCtorEq,Nat.reduceEqDiff])
  ((repeat refine Ws ?_);refine Wt (by first|rfl|simp only [EV,zF,reduceIte]) ?_)
  (((repeat refine Ws ?_);refine W_skip ?_); simp only [QV,reduceIte,reduceCtorEq,Nat.reduceEqDiff])
  ((repeat refine Ws ?_);refine W_block ?_)
  ((repeat refine Ws ?_);refine W_regionE T_ok ?_; intro Kn hKn)
  ((simp (maxSteps := 1000000) only [VL,VM,↓VG,reduceIte,reduceCtorEq,zA,zB,zC,zD,zE,zF,zG,zH,zI,zJ]); rw [hKn];clear hKn Kn;simp only [QV,reduceIte,reduceCtorEq,Nat.reduceEqDiff])
  ((repeat refine Ws ?_);refine W_regionE T_ok ?_; intro Kn hKn)
  simp (maxSteps := 1000000) only [VL,VM,↓VG,reduceIte,reduceCtorEq,zA,zB,zC,zD,zE,zF,zG,zH,zI,zJ]
  apply call_eq (f := 51) (fn := Tryd.f51) (by kernel_rfl) (by rfl)
  ·exact has_v s i _ hs2 (by omega)
  ((simp (maxSteps := 1000000) only [VL,VM,↓VG,reduceIte,reduceCtorEq,zA,zB,zC,zD,zE,zF,zG,zH,zI,zJ]); rw [hKn];clear hKn Kn;simp only [QV,reduceIte,reduceCtorEq,Nat.reduceEqDiff])
  cases hb : s.testBit i
  ·rw [hb] at hr
   simp only [Bool.false_eq_true, if_false, List.append_nil] at hr
   ((repeat refine Ws ?_);refine Wf (by first|rfl|simp only [EV,zF,reduceIte]) ?_)
   (((repeat refine Ws ?_);refine W_skip ?_); simp only [QV,reduceIte,reduceCtorEq,Nat.reduceEqDiff])
   ((repeat refine Ws ?_);refine W_regionE T_ok ?_; intro Kn hKn)
   ((simp (maxSteps := 1000000) only [VL,VM,↓VG,reduceIte,reduceCtorEq,zA,zB,zC,zD,zE,zF,zG,zH,zI,zJ, k1]); rw [hKn];clear hKn Kn;simp only [QV,reduceIte,reduceCtorEq,Nat.reduceEqDiff])
   exact LoopK.mk (i + 1) (by omega) (by omega) ⟨rfl, by rw [hr]; rfl, rfl, trivial⟩ (by rw [hr])
  ·rw [hb] at hr
   simp only [if_true] at hr
   ((repeat refine Ws ?_);refine Wt (by first|rfl|simp only [EV,zF,reduceIte]) ?_)
   ((repeat refine Ws ?_);refine W_regionE T_ok ?_; intro Kn hKn)
   ((simp (maxSteps := 1000000) only [VL,VM,↓VG,reduceIte,reduceCtorEq,zA,zB,zC,zD,zE,zF,zG,zH,zI,zJ, q1]); rw [hKn];clear hKn Kn;simp only [QV,reduceIte,reduceCtorEq,Nat.reduceEqDiff])
   ((repeat refine Ws ?_);refine W_regionE T_ok ?_; intro Kn hKn)
   ((simp (maxSteps := 1000000) only [VL,VM,↓VG,reduceIte,reduceCtorEq,zA,zB,zC,zD,zE,zF,zG,zH,zI,zJ, k1]); rw [hKn];clear hKn Kn;simp only [QV,reduceIte,reduceCtorEq,Nat.reduceEqDiff])
   exact LoopK.mk (i + 1) (by omega) (by omega) ⟨rfl, by rw [hr]; simp [get_cons], rfl, trivial⟩ (by rw [hr]; simp)
 ·have k2 : ((i : Int) < 7) = False := eq_false (by omega)
  obtain rfl : i = 7 := by omega
  ((simp (maxSteps := 1000000) only [VL,VM,↓VG,reduceIte,reduceCtorEq,zA,zB,zC,zD,zE,zF,zG,zH,zI,zJ, k2]); rw [hKn];clear hKn Kn;simp only [QV,reduceIte,reduceCtorEq,Nat.reduceEqDiff])
  ((repeat refine Ws ?_);refine Wf (by first|rfl|simp only [EV,zF,reduceIte]) ?_)
  (((repeat refine Ws ?_);refine W_exit ?_); simp only [QV,reduceIte,reduceCtorEq,Nat.reduceEqDiff])
  ((repeat refine Ws ?_);refine W_regionE T_ok ?_; intro Kn hKn)
  ((simp (maxSteps := 1000000) only [VL,VM,↓VG,reduceIte,reduceCtorEq,zA,zB,zC,zD,zE,zF,zG,zH,zI,zJ]); rw [hKn];clear hKn Kn;simp only [QV,reduceIte,reduceCtorEq,Nat.reduceEqDiff])
  (repeat refine Ws ?_)
  refine W_ret ?_
  try simp only [thenQ, blockQ]
  refine own_ret1 rfl ?_ (by rfl)
  simp only [get_cons, frz, vtup, Nat.reduceEqDiff, if_true, if_false, reduceIte]
  rfl
set_option maxRecDepth 100000 in
theorem ones_v (s : Nat) (M : Mem) (hs : s < 128) : VC Tryd.prog 50 [.p (.int .u8 s)] M (fun r M' => M' = M ∧ r = vi ((bitsL s).length : Nat)) := by
 refine VC_own' T_ok (f := 50) (fn := Tryd.f50) (by kernel_rfl) rfl Tryd.ntmps50 (by rfl) (by rfl) ?_
 generalize hB : (ByteArray.mk _) = B
 have hall : ∀ n < 128, B[n]? = some (UInt8.ofNat (bitsL n).length) := by
  rw [← hB]
  decide +kernel
 have h1 := hall s hs
 have h2 := bitsL_len (s := s)
 have h3 : (UInt8.ofNat (bitsL s).length).toNat = (bitsL s).length := by
  rw [UInt8.toNat_ofNat']
  omega
 have h4 : vconvert T 5 3 (.p (.int .u8 (((bitsL s).length : Nat) : Int))) = some (vi ((bitsL s).length : Nat)) := by
  simp only [vconvert, t_u8, t_int]
  have : Conv.intToInt .i64 (((bitsL s).length : Nat) : Int) = .pure (.int .i64 (IntKind.i64.wrap ((bitsL s).length : Nat))) := rfl
  rw [this, IntWalk.i64_in _ (by omega)]
  rfl
 ((repeat refine Ws ?_);refine W_regionE T_ok ?_; intro Kn hKn)
 ((simp (maxSteps := 1000000) only [VL,VM,↓VG,reduceIte,reduceCtorEq,zA,zB,zC,zD,zE,zF,zG,zH,zI,zJ]); rw [hKn];clear hKn Kn;simp only [QV,reduceIte,reduceCtorEq,Nat.reduceEqDiff])
 ((repeat refine Ws ?_);refine W_regionE T_ok ?_; intro Kn hKn)
 ((simp (maxSteps := 1000000) only [VL,VM,↓VG,reduceIte,reduceCtorEq,zA,zB,zC,zD,zE,zF,zG,zH,zI,zJ, idx_su, h1, h3, h4]); rw [hKn];clear hKn Kn;simp only [QV,reduceIte,reduceCtorEq,Nat.reduceEqDiff])
 (repeat refine Ws ?_)
 refine W_ret ?_
 try simp only [thenQ, blockQ]
 refine own_ret10 rfl ?_ (by rfl)
 simp only [get_cons, frz, vtup, Nat.reduceEqDiff, if_true, if_false, reduceIte]
theorem many_v (s : Nat) (M : Mem) (hs : s < 128) : VC Tryd.prog 28 [su s] M (fun r M' => M' = M ∧ r = vi ((bitsL s).length : Nat)) := by
 refine VC_own' T_ok (f := 28) (fn := Tryd.f28) (by kernel_rfl) rfl Tryd.ntmps28 (by rfl) (by rfl) ?_
 ((repeat refine Ws ?_);refine W_regionE T_ok ?_; intro Kn hKn)
 ((simp (maxSteps := 1000000) only [VL,VM,↓VG,reduceIte,reduceCtorEq,zA,zB,zC,zD,zE,zF,zG,zH,zI,zJ]); rw [hKn];clear hKn Kn;simp only [QV,reduceIte,reduceCtorEq,Nat.reduceEqDiff])
 ((repeat refine Ws ?_);refine W_regionE T_ok ?_; intro Kn hKn)
 simp (maxSteps := 1000000) only [VL,VM,↓VG,reduceIte,reduceCtorEq,zA,zB,zC,zD,zE,zF,zG,zH,zI,zJ]
 apply call_eq (f := 50) (fn := Tryd.f50) (by kernel_rfl) (by rfl)
 ·exact ones_v s _ hs
 ((simp (maxSteps := 1000000) only [VL,VM,↓VG,reduceIte,reduceCtorEq,zA,zB,zC,zD,zE,zF,zG,zH,zI,zJ]); rw [hKn];clear hKn Kn;simp only [QV,reduceIte,reduceCtorEq,Nat.reduceEqDiff])
 (repeat refine Ws ?_)
 refine W_ret ?_
 try simp only [thenQ, blockQ]
 refine own_ret10 rfl ?_ (by rfl)
 simp only [get_cons, frz, vtup, Nat.reduceEqDiff, if_true, if_false, reduceIte]
end Go.Proofs.YtkipednlefbfpaaDoor.Vm

/- Plans, plain: whether they hold, and when carts are away. -/
namespace Go.Proofs.YtkipednlefbfpaaDoor
abbrev Ra0 : Ra := ⟨0, 0, 0⟩
abbrev Ct0 : Ct := ⟨0, 0, ⟨0, 0⟩, 0, []⟩
abbrev St0 : St := ⟨0, 0⟩
def raAt (y : Ya) (r : Int) : Ra := y.ramps.getD r.toNat Ra0
def ctAt (y : Ya) (i : Nat) : Ct := y.carts.getD i Ct0
def stAt (p : List St) (i : Nat) : St := p.getD i St0
def tkAt (l : List Int) (i : Nat) : Int := l.getD i 0
theorem stAt_get {p : List St} {i : Nat} (h : i < p.length) : p[i]? = some (stAt p i) := by simp [stAt, h]
theorem ctAt_get {y : Ya} {i : Nat} (h : i < y.carts.length) : y.carts[i]? = some (ctAt y i) := by simp [ctAt, h]
theorem raAt_get {y : Ya} {r : Int} (h0 : 0 ≤ r) (h : r < y.ramps.length) : y.ramps[r.toNat]? = some (raAt y r) := by
 have : r.toNat < y.ramps.length := by omega
 simp [raAt, this]
theorem stAt_mem {p : List St} {i : Nat} (h : i < p.length) : stAt p i ∈ p := List.mem_of_getElem? (stAt_get h)
theorem ctAt_mem {y : Ya} {i : Nat} (h : i < y.carts.length) : ctAt y i ∈ y.carts := List.mem_of_getElem? (ctAt_get h)
theorem raAt_mem {y : Ya} {r : Int} (h0 : 0 ≤ r) (h : r < y.ramps.length) : raAt y r ∈ y.ramps := List.mem_of_getElem? (raAt_get h0 h)
def okSelf (y : Ya) (p : List St) (tk : List Int) (i : Nat) : Bool :=
 decide ((ctAt y i).from_ ≤ (stAt p i).from_) && decide ((raAt y (stAt p i).ramp).open_ ≤ (stAt p i).from_) && decide ((stAt p i).from_ + tkAt tk i ≤ (ctAt y i).until_) && decide ((stAt p i).from_ + tkAt tk i ≤ (raAt y (stAt p i).ramp).shut)
def okPair (y : Ya) (p : List St) (tk : List Int) (i k : Nat) : Bool :=
 !(decide (k ≠ i) && decide ((stAt p k).ramp = (stAt p i).ramp) && (decide ((stAt p i).from_ < (stAt p k).from_) || (decide ((stAt p k).from_ = (stAt p i).from_) && decide (i < k))) && decide ((stAt p k).from_ < (stAt p i).from_ + tkAt tk i + y.sweep))
def okAll (y : Ya) (p : List St) (tk : List Int) (i : Nat) : Bool := okSelf y p tk i && (List.range p.length).all (okPair y p tk i)
def heldB (y : Ya) (p : List St) (tk : List Int) : Bool := (List.range p.length).all (okAll y p tk)
def longest (y : Ya) : List Int := y.carts.map (·.takes.hi)
def shortest (y : Ya) : List Int := y.carts.map (·.takes.lo)
def awayL (y : Ya) (p : List St) : List Sp := (p.zip y.carts).map fun x => ⟨x.1.from_ + x.2.takes.lo, x.1.from_ + x.2.takes.hi⟩
structure PlV (y : Ya) (p : List St) : Prop where
 len : p.length = y.carts.length
 r0 : ∀ i, i < p.length → 0 ≤ (stAt p i).ramp
 r1 : ∀ i, i < p.length → (stAt p i).ramp < y.ramps.length
 mem : ∀ i, i < p.length → (stAt p i).ramp ∈ (ctAt y i).ramps
 br : ∀ i, i < p.length → (ctAt y i).grams ≤ (raAt y (stAt p i).ramp).bears
 f0 : ∀ i, i < p.length → 0 ≤ (stAt p i).from_
 f1 : ∀ i, i < p.length → (stAt p i).from_ ≤ 480
theorem slErr_ok {y : Ya} {s : St} {c : Ct} : slErr y s c = 0 ↔ 0 ≤ s.ramp ∧ s.ramp < y.ramps.length ∧ s.ramp ∈ c.ramps ∧ c.grams ≤ bearsAt y s.ramp ∧ 0 ≤ s.from_ ∧ s.from_ ≤ 480 := by
 unfold slErr dawnB
 constructor
 ·intro h
  split at h
  ·rename_i h1
   rw [inR_true] at h1
   split at h
   ·rename_i h2
    split at h
    ·omega
    ·split at h
     ·rename_i h3 h4
      rw [inR_true] at h4
      exact ⟨by omega, by omega, h2, by omega, h4.1, h4.2⟩
     ·omega
   ·omega
  ·omega
 ·intro ⟨a, b, c, d, e, f⟩
  rw [if_pos (by rw [inR_true]; omega), if_pos c, if_neg (by omega), if_pos (by rw [inR_true]; omega)]
theorem slsErr_ok {y : Ya} : ∀ {p : List St} {cs : List Ct}, p.length = cs.length → (slsErr y p cs = 0 ↔ ∀ i, i < p.length → slErr y (p.getD i St0) (cs.getD i Ct0) = 0)
 | [], [], _ => by
  rw [slsErr]
  ·simp
  ·intro s ss c cs h; cases h
 | s :: p, c :: cs, h => by
  rw [slsErr]
  have ih := slsErr_ok (y := y) (p := p) (cs := cs) (by simpa using h)
  by_cases h1 : slErr y s c = 0
  ·rw [if_pos h1, ih]
   constructor
   ·intro h2 i hi
    cases i with
    | zero => exact h1
    | succ i => exact h2 i (by simpa using hi)
   ·intro h2 i hi
    exact h2 (i + 1) (by simpa using hi)
  ·rw [if_neg h1]
   constructor
   ·intro h2; exact absurd h2 h1
   ·intro h2; exact absurd (h2 0 (by simp)) h1
theorem plErr_ok {y : Ya} {p : List St} : plErr y p = 0 ↔ YaV y ∧ PlV y p := by
 unfold plErr
 constructor
 ·intro h
  split at h
  ·rename_i h1
   split at h
   ·rename_i h2
    have h3 := fun i hi => slErr_ok.1 ((slsErr_ok h2).1 h i hi)
    refine ⟨yErr_ok.1 h1, h2, fun i hi => (h3 i hi).1, fun i hi => (h3 i hi).2.1, fun i hi => (h3 i hi).2.2.1, fun i hi => (h3 i hi).2.2.2.1, fun i hi => (h3 i hi).2.2.2.2.1, fun i hi => (h3 i hi).2.2.2.2.2⟩
   ·omega
  ·rename_i h1; exact absurd h h1
 ·intro ⟨h1, h2⟩
  rw [if_pos (yErr_ok.2 h1), if_pos h2.len, slsErr_ok h2.len]
  intro i hi
  rw [slErr_ok]
  exact ⟨h2.r0 i hi, h2.r1 i hi, h2.mem i hi, h2.br i hi, h2.f0 i hi, h2.f1 i hi⟩
end Go.Proofs.YtkipednlefbfpaaDoor

/- Plans, plain: the last one away, and which plan comes before. -/
namespace Go.Proofs.YtkipednlefbfpaaDoor
def lastV (y : Ya) (p : List St) : Int := (awayL y p).foldl (fun m s => max m s.hi) 0
def sltB (a b : St) : Bool := decide (a.ramp < b.ramp) || (decide (a.ramp = b.ramp) && decide (a.from_ < b.from_))
def beforeB : List St → List St → Bool
 | a :: x, b :: z => if a = b then beforeB x z else sltB a b
 | _, _ => false
end Go.Proofs.YtkipednlefbfpaaDoor

/- The reference's search for the best plan, plain. -/
namespace Go.Proofs.YtkipednlefbfpaaDoor
def better (y : Ya) (best : Option (List St)) (x : List St) : Option (List St) :=
 match best with
 | none => some x
 | some b => if lastV y x < lastV y b then some x else if lastV y x = lastV y b then (if beforeB x b then some x else some b) else some b
def candF (y : Ya) (free : List Int) (i : Nat) (r : Int) : Int := max (ctAt y i).from_ (max (raAt y r).open_ (tkAt free r.toNat))
def servC (y : Ya) (plan : List St) (free : List Int) (i : Nat) (r : Int) : Option (List St × List Int) :=
 if (raAt y r).bears < (ctAt y i).grams then none else if (ctAt y i).until_ < candF y free i r + (ctAt y i).takes.hi then none else if (raAt y r).shut < candF y free i r + (ctAt y i).takes.hi then none
 else some (plan.set i ⟨r, candF y free i r⟩, free.set r.toNat (candF y free i r + (ctAt y i).takes.hi + y.sweep))
def stepK (y : Ya) (S : List St → List Int → Option (List St)) (plan : List St) (free : List Int) (i : Nat) (best : Option (List St)) (r : Int) : Option (List St) :=
 match servC y plan free i r with
 | none => best
 | some q => match S q.1 q.2 with
  | none => best
  | some x => better y best x
def stepI (y : Ya) (S : List St → List Int → Option (List St)) (plan : List St) (free : List Int) (best : Option (List St)) (i : Nat) : Option (List St) :=
 if 0 ≤ (stAt plan i).ramp then best else (ctAt y i).ramps.foldl (stepK y S plan free i) best
def placed (s : St) : Bool := decide (0 ≤ s.ramp)
def servR (y : Ya) : Nat → List St → List Int → Option (List St)
 | 0, plan, _ => some plan
 | n + 1, plan, free => if plan.all placed then some plan else (List.range plan.length).foldl (stepI y (servR y n) plan free) none
def un (plan : List St) : Nat := plan.countP fun s => !placed s
structure SvOk (y : Ya) (plan : List St) (free : List Int) : Prop where
 len : plan.length = y.carts.length
 fl : free.length = y.ramps.length
 f : ∀ i, i < plan.length → 0 ≤ (stAt plan i).from_ ∧ (stAt plan i).from_ ≤ 480
 fr : ∀ r, r < free.length → 0 ≤ tkAt free r ∧ tkAt free r ≤ 960
theorem stAt_set {l : List St} {i j : Nat} {s : St} (h : i < l.length) : stAt (l.set i s) j = if i = j then s else stAt l j := by
 unfold stAt
 rw [List.getD_eq_getElem?_getD, List.getD_eq_getElem?_getD, List.getElem?_set]
 by_cases hij : i = j
 ·subst hij; simp [h]
 ·simp [hij]
theorem tkAt_set {l : List Int} {i j : Nat} {s : Int} (h : i < l.length) : tkAt (l.set i s) j = if i = j then s else tkAt l j := by
 unfold tkAt
 rw [List.getD_eq_getElem?_getD, List.getD_eq_getElem?_getD, List.getElem?_set]
 by_cases hij : i = j
 ·subst hij; simp [h]
 ·simp [hij]
theorem candF_bd {y : Ya} {free : List Int} {i : Nat} {r : Int} (hy : YaV y) (hi : i < y.carts.length) (h0 : 0 ≤ r) (h1 : r < y.ramps.length) (hf : 0 ≤ tkAt free r.toNat ∧ tkAt free r.toNat ≤ 960) : 0 ≤ candF y free i r ∧ candF y free i r ≤ 960 := by
 have c := hy.ct _ (ctAt_mem hi)
 have k := hy.ra _ (raAt_mem h0 h1)
 have := c.f0
 have := c.fu
 have := c.u1
 have := k.o0
 have := k.os
 have := k.s1
 unfold candF
 omega
theorem servC_ok {y : Ya} {plan : List St} {free : List Int} {i : Nat} {r : Int} {q : List St × List Int} (hy : YaV y) (h : SvOk y plan free) (hi : i < plan.length) (h0 : 0 ≤ r) (h1 : r < y.ramps.length) (hq : servC y plan free i r = some q) : SvOk y q.1 q.2 := by
 have hl := h.len
 have hfl := h.fl
 have hc := candF_bd (free := free) (i := i) (r := r) hy (by omega) h0 h1 (h.fr _ (by omega))
 have c := hy.ct _ (ctAt_mem (y := y) (i := i) (by omega))
 have := c.u1
 have := c.l0
 have := c.lh
 have := c.h1
 have := hy.s0
 have := hy.s1
 unfold servC at hq
 split at hq
 ·cases hq
 ·split at hq
  ·cases hq
  ·split at hq
   ·cases hq
   ·cases hq
    refine ⟨by simpa using hl, by simpa using hfl, fun j hj => ?_, fun k hk => ?_⟩
    ·rw [stAt_set hi]
     by_cases hij : i = j
     ·rw [if_pos hij]; simp only; omega
     ·rw [if_neg hij]; exact h.f j (by simpa using hj)
    ·rw [tkAt_set (by omega)]
     by_cases hij : r.toNat = k
     ·rw [if_pos hij]; omega
     ·rw [if_neg hij]; exact h.fr k (by simpa using hk)
theorem un_set : ∀ {l : List St} {i : Nat} {s : St}, i < l.length → ¬ 0 ≤ (stAt l i).ramp → 0 ≤ s.ramp → un (l.set i s) + 1 = un l
 | x :: l, 0, s, _, h1, h2 => by
  simp only [stAt, List.getD_cons_zero] at h1
  have a1 : placed x = false := by simp [placed]; omega
  have a2 : placed s = true := by simp [placed]; omega
  simp [un, a1, a2]
 | x :: l, i + 1, s, h, h1, h2 => by
  have ih := un_set (l := l) (i := i) (s := s) (by simpa using h) (by simpa [stAt] using h1) h2
  simp only [un, List.set_cons_succ, List.countP_cons] at ih ⊢
  omega
theorem servC_un {y : Ya} {plan : List St} {free : List Int} {i : Nat} {r : Int} {q : List St × List Int} (hi : i < plan.length) (h0 : 0 ≤ r) (hu : ¬ 0 ≤ (stAt plan i).ramp) (hq : servC y plan free i r = some q) : un q.1 + 1 = un plan := by
 unfold servC at hq
 split at hq
 ·cases hq
 ·split at hq
  ·cases hq
  ·split at hq
   ·cases hq
   ·cases hq
    exact un_set hi hu h0
theorem all_un {plan : List St} (h : un plan = 0) : plan.all placed = true := by
 unfold un at h
 rw [List.countP_eq_zero] at h
 rw [List.all_eq_true]
 intro s hs
 simpa using h s hs
theorem better_some {y : Ya} {best : Option (List St)} {x b : List St} (h : better y best x = some b) : b = x ∨ best = some b := by
 unfold better at h
 cases best with
 | none => cases h; exact .inl rfl
 | some c =>
  simp only at h
  split at h
  ·cases h; exact .inl rfl
  ·split at h
   ·split at h
    ·cases h; exact .inl rfl
    ·cases h; exact .inr rfl
   ·cases h; exact .inr rfl
theorem fold_inv {α β : Type} {p : β → Prop} {f : β → α → β} : ∀ {l : List α} {b : β}, p b → (∀ a ∈ l, ∀ b, p b → p (f b a)) → p (l.foldl f b)
 | [], _, h, _ => h
 | a :: l, b, h, hf => fold_inv (l := l) (hf a (by simp) b h) fun c hc => hf c (by simp [hc])
end Go.Proofs.YtkipednlefbfpaaDoor

/- Choices of carts, and the reference's answers, plain. -/
namespace Go.Proofs.YtkipednlefbfpaaDoor
def choices (n : Nat) : Nat → Nat → List (List Int)
 | 0, _ => [[]]
 | m + 1, first => (List.range' first (n - first)).flatMap fun i => (choices n m (i + 1)).map fun l => (i : Int) :: l
def onlyY (y : Ya) (l : List Int) : Ya := { y with carts := l.map fun k => ctAt y k.toNat }
def servedR (y : Ya) : Option (List St) := servR y y.carts.length (List.replicate y.carts.length ⟨-1, 0⟩) (List.replicate y.ramps.length 0)
def serveT (y : Ya) : List St × Int × Int := if yErr y = 0 then (match servedR y with
 | none => ([], 0, 3)
 | some p => (p, lastV y p, 0)) else ([], 0, yErr y)
def stuckL (y : Ya) : List (List Int) := (List.range' 1 y.carts.length).flatMap fun m => choices y.carts.length m 0
def mostL (y : Ya) : List (List Int) := (List.range y.carts.length).flatMap fun j => choices y.carts.length (y.carts.length - j) 0
def canB (y : Ya) (l : List Int) : Bool := (servedR (onlyY y l)).isSome
def stuckT (y : Ya) : List Int × Int := if yErr y = 0 then (match (stuckL y).find? (fun l => !canB y l) with
 | none => ([], 3)
 | some l => (l, 0)) else ([], yErr y)
def mostT (y : Ya) : List Int × Int := if yErr y = 0 then (match (mostL y).find? (canB y) with
 | none => ([], 0)
 | some l => (l, 0)) else ([], yErr y)
theorem onlyY_ok {y : Ya} {l : List Int} (h : YaV y) (hl : l.length ≤ 7) (hm : ∀ x ∈ l, 0 ≤ x ∧ x < y.carts.length) : YaV (onlyY y l) := by
 refine ⟨h.n0, h.n1, h.ra, by simpa [onlyY] using hl, fun c hc => ?_, h.s0, h.s1⟩
 obtain ⟨k, hk, rfl⟩ := List.mem_map.1 hc
 have := hm k hk
 exact h.ct _ (ctAt_mem (by omega))
end Go.Proofs.YtkipednlefbfpaaDoor

/- Plans that serve all carts, and the best of them, plain. -/
namespace Go.Proofs.YtkipednlefbfpaaDoor
/-! ### an order of plans -/
theorem slt_irr (a : St) : sltB a a = false := by simp [sltB]
theorem beforeB_irr : ∀ a : List St, beforeB a a = false
 | [] => by rw [beforeB]; intro x z u v h; cases h
 | x :: a => by rw [beforeB, if_pos rfl]; exact beforeB_irr a
theorem beforeB_nil (b : List St) : beforeB [] b = false := by rw [beforeB]; intro x z u v h; cases h
theorem sltB_true {a b : St} : sltB a b = true ↔ a.ramp < b.ramp ∨ (a.ramp = b.ramp ∧ a.from_ < b.from_) := by simp [sltB]
theorem beforeB_trans : ∀ {a b c : List St}, a.length = b.length → b.length = c.length → beforeB a b = true → beforeB b c = true → beforeB a c = true
 | [], _, _, _, _, h, _ => by rw [beforeB_nil] at h; cases h
 | x :: a, [], _, h, _, _, _ => by simp at h
 | x :: a, y :: b, [], _, h, _, _ => by simp at h
 | x :: a, y :: b, z :: c, h1, h2, h3, h4 => by
  rw [beforeB] at h3 h4 ⊢
  by_cases e1 : x = y
  ·subst e1
   rw [if_pos rfl] at h3
   by_cases e2 : x = z
   ·subst e2
    rw [if_pos rfl] at h4 ⊢
    exact beforeB_trans (by simpa using h1) (by simpa using h2) h3 h4
   ·rw [if_neg e2] at h4 ⊢; exact h4
  ·rw [if_neg e1] at h3
   by_cases e2 : y = z
   ·subst e2
    rw [if_neg e1]; exact h3
   ·rw [if_neg e2] at h4
    rw [sltB_true] at h3 h4
    by_cases e3 : x = z
    ·subst e3
     omega
    ·rw [if_neg e3, sltB_true]; omega
theorem beforeB_total : ∀ {a b : List St}, a.length = b.length → beforeB a b = false → beforeB b a = false → a = b
 | [], [], _, _, _ => rfl
 | [], y :: b, h, _, _ => by simp at h
 | x :: a, [], h, _, _ => by simp at h
 | x :: a, y :: b, h, h1, h2 => by
  rw [beforeB] at h1 h2
  by_cases e : x = y
  ·subst e
   rw [if_pos rfl] at h1 h2
   rw [beforeB_total (by simpa using h) h1 h2]
  ·rw [if_neg e] at h1
   rw [if_neg (fun h => e h.symm)] at h2
   have h3 : ¬ (x.ramp < y.ramp ∨ (x.ramp = y.ramp ∧ x.from_ < y.from_)) := fun h => by rw [sltB_true.2 h] at h1; cases h1
   have h4 : ¬ (y.ramp < x.ramp ∨ (y.ramp = x.ramp ∧ y.from_ < x.from_)) := fun h => by rw [sltB_true.2 h] at h2; cases h2
   exfalso
   apply e
   cases x; cases y
   simp only [St.mk.injEq]
   simp only at h3 h4
   omega
theorem beforeB_asym {a b : List St} (hl : a.length = b.length) (h : beforeB a b = true) : beforeB b a = false := by
 cases h2 : beforeB b a with
 | false => rfl
 | true =>
  have := beforeB_trans hl hl.symm h h2
  rw [beforeB_irr] at this
  cases this
theorem beforeB_set : ∀ {q : List St} {i : Nat} {s : St}, i < q.length → sltB (stAt q i) s = false → beforeB q (q.set i s) = false
 | x :: q, 0, s, _, h => by
  rw [List.set_cons_zero, beforeB]
  by_cases e : x = s
  ·rw [if_pos e]; exact beforeB_irr q
  ·rw [if_neg e]; exact h
 | x :: q, i + 1, s, h, h2 => by
  rw [List.set_cons_succ, beforeB, if_pos rfl]
  exact beforeB_set (by simpa using h) (by simpa [stAt] using h2)
def leP (y : Ya) (a b : List St) : Prop := lastV y a < lastV y b ∨ (lastV y a = lastV y b ∧ beforeB b a = false)
theorem leP_refl (y : Ya) (a : List St) : leP y a a := .inr ⟨rfl, beforeB_irr a⟩
theorem leP_trans {y : Ya} {a b c : List St} (h1 : a.length = b.length) (h2 : b.length = c.length) (h3 : leP y a b) (h4 : leP y b c) : leP y a c := by
 rcases h3 with h3 | ⟨h3, h5⟩
 ·rcases h4 with h4 | ⟨h4, _⟩
  ·exact .inl (by omega)
  ·exact .inl (by omega)
 ·rcases h4 with h4 | ⟨h4, h6⟩
  ·exact .inl (by omega)
  ·refine .inr ⟨by omega, ?_⟩
   cases hca : beforeB c a with
   | false => rfl
   | true =>
    by_cases hab : a = b
    ·subst hab; rw [h6] at hca; cases hca
    ·cases hab2 : beforeB a b with
     | false => exact absurd (beforeB_total h1 hab2 h5) hab
     | true =>
      have := beforeB_trans (h2.symm.trans h1.symm) h1 hca hab2
      rw [h6] at this; cases this
theorem better_le {y : Ya} {best : Option (List St)} {x : List St} (hb : ∀ b, best = some b → b.length = x.length) : ∃ z, better y best x = some z ∧ leP y z x ∧ ∀ b, best = some b → leP y z b := by
 unfold better
 cases best with
 | none => exact ⟨x, rfl, leP_refl y x, fun b h => by cases h⟩
 | some b =>
  have hl := hb b rfl
  simp only
  split
  ·rename_i h
   exact ⟨x, rfl, leP_refl y x, fun c hc => by cases hc; exact .inl h⟩
  ·rename_i h
   split
   ·rename_i h2
    cases h3 : beforeB x b with
    | true =>
     rw [if_pos rfl]
     exact ⟨x, rfl, leP_refl y x, fun c hc => by cases hc; exact .inr ⟨h2, beforeB_asym hl.symm h3⟩⟩
    | false =>
     rw [if_neg (by decide)]
     exact ⟨b, rfl, .inr ⟨h2.symm, h3⟩, fun c hc => by cases hc; exact leP_refl y b⟩
   ·rename_i h2
    exact ⟨b, rfl, .inl (by omega), fun c hc => by cases hc; exact leP_refl y b⟩
/-! ### what goes on from a plan -/
structure Ext (y : Ya) (plan : List St) (free : List Int) (q : List St) : Prop where
 len : q.length = plan.length
 old : ∀ i, i < plan.length → 0 ≤ (stAt plan i).ramp → stAt q i = stAt plan i
 r : ∀ i, i < plan.length → ¬ 0 ≤ (stAt plan i).ramp → (stAt q i).ramp ∈ (ctAt y i).ramps
 br : ∀ i, i < plan.length → ¬ 0 ≤ (stAt plan i).ramp → (ctAt y i).grams ≤ (raAt y (stAt q i).ramp).bears
 f1 : ∀ i, i < plan.length → ¬ 0 ≤ (stAt plan i).ramp → (ctAt y i).from_ ≤ (stAt q i).from_
 f2 : ∀ i, i < plan.length → ¬ 0 ≤ (stAt plan i).ramp → (raAt y (stAt q i).ramp).open_ ≤ (stAt q i).from_
 f3 : ∀ i, i < plan.length → ¬ 0 ≤ (stAt plan i).ramp → (stAt q i).from_ + (ctAt y i).takes.hi ≤ (ctAt y i).until_
 f4 : ∀ i, i < plan.length → ¬ 0 ≤ (stAt plan i).ramp → (stAt q i).from_ + (ctAt y i).takes.hi ≤ (raAt y (stAt q i).ramp).shut
 fr : ∀ i, i < plan.length → ¬ 0 ≤ (stAt plan i).ramp → tkAt free (stAt q i).ramp.toNat ≤ (stAt q i).from_
 sep : ∀ i k, i < plan.length → k < plan.length → i ≠ k → ¬ 0 ≤ (stAt plan i).ramp → ¬ 0 ≤ (stAt plan k).ramp → (stAt q i).ramp = (stAt q k).ramp →
  (stAt q i).from_ + (ctAt y i).takes.hi + y.sweep ≤ (stAt q k).from_ ∨ (stAt q k).from_ + (ctAt y k).takes.hi + y.sweep ≤ (stAt q i).from_
theorem st_ext {a b : List St} (hl : a.length = b.length) (h : ∀ i, i < a.length → stAt a i = stAt b i) : a = b := by
 apply List.ext_getElem hl
 intro i h1 h2
 have := h i h1
 simpa [stAt, h1, h2] using this
theorem Ext.all {y : Ya} {plan : List St} {free : List Int} {q : List St} (h : Ext y plan free q) (hp : plan.all placed = true) : q = plan := by
 refine st_ext h.len fun i hi => h.old i (by rw [← h.len]; exact hi) ?_
 have := List.all_eq_true.1 hp _ (stAt_mem (by rw [← h.len]; exact hi))
 exact of_decide_eq_true this
theorem ext_all {y : Ya} {plan : List St} {free : List Int} (hp : plan.all placed = true) : Ext y plan free plan := by
 have key : ∀ i, i < plan.length → 0 ≤ (stAt plan i).ramp := fun i hi => of_decide_eq_true (List.all_eq_true.1 hp _ (stAt_mem hi))
 exact ⟨rfl, fun _ _ _ => rfl, fun i hi h => absurd (key i hi) h, fun i hi h => absurd (key i hi) h, fun i hi h => absurd (key i hi) h, fun i hi h => absurd (key i hi) h, fun i hi h => absurd (key i hi) h, fun i hi h => absurd (key i hi) h, fun i hi h => absurd (key i hi) h, fun i k hi _ _ h => absurd (key i hi) h⟩
theorem servC_some {y : Ya} {plan : List St} {free : List Int} {i : Nat} {r : Int} {q : List St × List Int} (h : servC y plan free i r = some q) :
  (ctAt y i).grams ≤ (raAt y r).bears ∧ candF y free i r + (ctAt y i).takes.hi ≤ (ctAt y i).until_ ∧ candF y free i r + (ctAt y i).takes.hi ≤ (raAt y r).shut ∧ q = (plan.set i ⟨r, candF y free i r⟩, free.set r.toNat (candF y free i r + (ctAt y i).takes.hi + y.sweep)) := by
 unfold servC at h
 split at h
 ·cases h
 ·split at h
  ·cases h
  ·split at h
   ·cases h
   ·cases h
    exact ⟨by omega, by omega, by omega, rfl⟩
theorem candF_le (y : Ya) (free : List Int) (i : Nat) (r : Int) : (ctAt y i).from_ ≤ candF y free i r ∧ (raAt y r).open_ ≤ candF y free i r ∧ tkAt free r.toNat ≤ candF y free i r := by
 unfold candF; omega
theorem ext_back {y : Ya} {plan : List St} {free : List Int} {i : Nat} {r : Int} {q : List St × List Int} {x : List St} (hy : YaV y) (h : SvOk y plan free) (hi : i < plan.length) (hu : ¬ 0 ≤ (stAt plan i).ramp) (hr : r ∈ (ctAt y i).ramps)
  (hq : servC y plan free i r = some q) (hx : Ext y q.1 q.2 x) : Ext y plan free x := by
 have hl := h.len
 have hfl := h.fl
 have c := hy.ct _ (ctAt_mem (y := y) (i := i) (by omega))
 obtain ⟨hr0, hr1⟩ := c.r r hr
 have hl0 := c.l0
 have hlh := c.lh
 have hs0 := hy.s0
 obtain ⟨a1, a2, a3, rfl⟩ := servC_some hq
 obtain ⟨b1, b2, b3⟩ := candF_le y free i r
 generalize hA : candF y free i r = A at *
 simp only at hx
 have hpi : stAt (plan.set i ⟨r, A⟩) i = ⟨r, A⟩ := by rw [stAt_set hi, if_pos rfl]
 have hpk : ∀ k, k ≠ i → stAt (plan.set i ⟨r, A⟩) k = stAt plan k := fun k hk => by rw [stAt_set hi, if_neg (fun e => hk e.symm)]
 have hxi : stAt x i = ⟨r, A⟩ := by
  rw [hx.old i (by simpa using hi) (by rw [hpi]; exact hr0), hpi]
 have hfree : ∀ z : Int, tkAt free z.toNat ≤ tkAt (free.set r.toNat (A + (ctAt y i).takes.hi + y.sweep)) z.toNat := fun z => by
  rw [tkAt_set (by omega)]
  by_cases e : r.toNat = z.toNat
  ·rw [if_pos e, ← e]; omega
  ·rw [if_neg e]; exact Int.le_refl _
 have hlen : (plan.set i ⟨r, A⟩).length = plan.length := by simp
 refine ⟨by rw [hx.len, hlen], fun k hk h0 => ?_, fun k hk h0 => ?_, fun k hk h0 => ?_, fun k hk h0 => ?_, fun k hk h0 => ?_, fun k hk h0 => ?_, fun k hk h0 => ?_, fun k hk h0 => ?_, fun j k hj hk hne h0 h1 hre => ?_⟩
 ·by_cases hki : k = i
  ·subst hki; exact absurd h0 hu
  ·rw [hx.old k (by rw [hlen]; exact hk) (by rw [hpk k hki]; exact h0), hpk k hki]
 ·by_cases hki : k = i
  ·subst hki; rw [hxi]; exact hr
  ·exact hx.r k (by rw [hlen]; exact hk) (by rw [hpk k hki]; exact h0)
 ·by_cases hki : k = i
  ·subst hki; rw [hxi]; exact a1
  ·exact hx.br k (by rw [hlen]; exact hk) (by rw [hpk k hki]; exact h0)
 ·by_cases hki : k = i
  ·subst hki; rw [hxi]; exact b1
  ·exact hx.f1 k (by rw [hlen]; exact hk) (by rw [hpk k hki]; exact h0)
 ·by_cases hki : k = i
  ·subst hki; rw [hxi]; exact b2
  ·exact hx.f2 k (by rw [hlen]; exact hk) (by rw [hpk k hki]; exact h0)
 ·by_cases hki : k = i
  ·subst hki; rw [hxi]; exact a2
  ·exact hx.f3 k (by rw [hlen]; exact hk) (by rw [hpk k hki]; exact h0)
 ·by_cases hki : k = i
  ·subst hki; rw [hxi]; exact a3
  ·exact hx.f4 k (by rw [hlen]; exact hk) (by rw [hpk k hki]; exact h0)
 ·by_cases hki : k = i
  ·subst hki; rw [hxi]; exact b3
  ·exact Int.le_trans (hfree _) (hx.fr k (by rw [hlen]; exact hk) (by rw [hpk k hki]; exact h0))
 ·by_cases hji : j = i
  ·subst hji
   have hki : k ≠ j := fun e => hne e.symm
   have := hx.fr k (by rw [hlen]; exact hk) (by rw [hpk k hki]; exact h1)
   rw [← hre, hxi, tkAt_set (by omega), if_pos rfl] at this
   rw [hxi]
   exact .inl this
  ·by_cases hki : k = i
   ·subst hki
    have := hx.fr j (by rw [hlen]; exact hj) (by rw [hpk j hji]; exact h0)
    rw [hre, hxi, tkAt_set (by omega), if_pos rfl] at this
    rw [hxi]
    exact .inr this
   ·exact hx.sep j k (by rw [hlen]; exact hj) (by rw [hlen]; exact hk) hne (by rw [hpk j hji]; exact h0) (by rw [hpk k hki]; exact h1) hre
end Go.Proofs.YtkipednlefbfpaaDoor
