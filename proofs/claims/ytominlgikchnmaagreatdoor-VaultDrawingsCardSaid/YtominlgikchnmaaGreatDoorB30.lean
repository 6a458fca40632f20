/- A part of the proofs about the chapter of the vaults; it states no condition of its own. -/
import Derived.Test.YtominlgikchnmaaGreatDoorB27
import Derived.Test.YtominlgikchnmaaGreatDoorB29
set_option linter.unusedVariables false
set_option linter.unusedSimpArgs false
open Int renaming reduceLE → zA, reduceLT → zB, reduceToNat → zC, reduceNeg → zD
open Nat renaming reduceLT → zE, reduceEqDiff → zF, reduceAdd → zG, reduceSub → zH, reduceMul → zI, reduceLeDiff → zJ
/- The reference's number, on values. (Vm) -/
namespace Go.Proofs.YtominlgikchnmaaGreatDoor.Vm
open Go Go.Proofs
theorem b_lss (t : Nat) (a b : Int) : vbin T .lss t (.p (.int .u8 a)) (.p (.int .u8 b)) = some (vb (decide (a < b))) := by
 have h : Go.binOp .lss 0 (.int .u8 a) (.int .u8 b) = .pure (.bool (decide (a < b))) := rfl
 simp only [vbin, h, pureOf, Option.map_some, ofValue]
theorem b_gtr (t : Nat) (a b : Int) : vbin T .gtr t (.p (.int .u8 a)) (.p (.int .u8 b)) = some (vb (decide (b < a))) := by
 have h : Go.binOp .gtr 0 (.int .u8 a) (.int .u8 b) = .pure (.bool (decide (a > b))) := rfl
 simp only [vbin, h, pureOf, Option.map_some, ofValue, gt_iff_lt]
theorem b_eql (t : Nat) (a b : Int) : vbin T .eql t (.p (.int .u8 a)) (.p (.int .u8 b)) = some (vb (decide (a = b))) := by
 have h : Go.binOp .eql 0 (.int .u8 a) (.int .u8 b) = .pure (.bool (decide (a = b))) := rfl
 simp only [vbin, h, pureOf, Option.map_some, ofValue]
theorem b_sub (t : Nat) (a b : Int) (h1 : b ≤ a) (h0 : 0 ≤ b) (h2 : a < 256) : vbin T .sub t (.p (.int .u8 a)) (.p (.int .u8 b)) = some (.p (.int .u8 (a - b))) := by
 refine bin_pure t ?_
 show Sem.pure (Value.int .u8 (IntKind.u8.wrap (a - b))) = _
 rw [IntWalk.u8_in _ (by omega)]
theorem c_bi (a : Int) (h0 : 0 ≤ a) (h : a < 256) : vconvert T 5 3 (.p (.int .u8 a)) = some (vi a) := by
 simp only [vconvert, t_u8, t_int]
 have : Conv.intToInt .i64 a = .pure (.int .i64 (IntKind.i64.wrap a)) := rfl
 rw [this, IntWalk.i64_in _ (by omega)]
 rfl
theorem own_ret20t {T : Tab} {f : Nat} {fn : Func} {M : Mem} {e : Env} {t t' : Nat} {X Y : VV} (h1 : fn.results.toList = [.tmp t, .tmp t']) (hr : frz M.H.length M.H (get e t) = X) (hr' : frz M.H.length M.H (get e t') = Y) (h2 : refs X = []) (h2' : refs Y = []) : ownQ T f fn M (fun r M' => M' = M ∧ r = .tup [X, Y]) .ret e M [] := by
 have h := own_ret2t (T := T) (f := f) (fn := fn) (M := M) (L := []) (e := e) (X := X) (Y := Y) h1 (by simpa using hr) (by simpa using hr') h2 h2'
 simpa using h
def numT (m : Nat) (s : By) : Int × Bool := match numR m s with
 | some n => (n, true)
 | none => (0, false)
theorem dec_step {s : By} {i n : Nat} (hi : i < s.length) (h : Lib.decFrom 0 (s.take i) = some n) : Lib.decFrom 0 (s.take (i + 1)) = match Lib.digitVal s[i] with
  | some d => some (n * 10 + d)
  | none => none := by
 rw [List.take_succ_eq_append_getElem hi, dec_app, h]
 simp only [Option.bind_some, Lib.decFrom]
 cases Lib.digitVal s[i] <;> rfl
theorem dec_none {s : By} {i : Nat} (h : Lib.decFrom 0 (s.take i) = none) : Lib.decFrom 0 s = none := by
 conv => lhs; rw [← List.take_append_drop i s]
 rw [dec_app, h]
 rfl
set_option maxRecDepth 8000 in
set_option maxHeartbeats 1000000 in
theorem rnumber_v (s : By) (M : Mem) (hs : s.length ≤ 1000000) : VC Tryz.prog 71 [vs s] M (fun r M' => M' = M ∧ r = .tup [vi (numT 8 s).1, vb (numT 8 s).2]) := by
 refine VC_own' T_ok (f := 71) (fn := Tryz.f71) (by kernel_rfl) rfl Tryz.ntmps71 (by rfl) (by rfl) ?_
 ((repeat refine Ws ?_);refine W_regionE T_ok ?_; intro Kn hKn)
 ((simp (maxSteps := 1000000) only [VL,VM,↓VG,reduceIte,reduceCtorEq,zA,zB,zC,zD,zE,zF,zG,zH,zI,zJ]); rw [hKn];clear hKn Kn;simp only [QV,reduceIte,reduceCtorEq,Nat.reduceEqDiff])
 have fall : (s.length < 1 ∨ 8 < s.length ∨ (s.head? = some 48 ∧ 1 < s.length)) → numT 8 s = (0, false) := fun h => by
  unfold numT numR
  rw [if_pos h]
 ((repeat refine Ws ?_);refine W_regionE T_ok ?_; intro Kn hKn)
 rcases Nat.eq_zero_or_pos s.length with h0 | h0
 ·have k1 : ((s.length : Int) < 1) = True := eq_true (by omega)
  ((simp (maxSteps := 1000000) only [VL,VM,↓VG,reduceIte,reduceCtorEq,zA,zB,zC,zD,zE,zF,zG,zH,zI,zJ, tx_size, k1]); rw [hKn];clear hKn Kn;simp only [QV,reduceIte,reduceCtorEq,Nat.reduceEqDiff])
  ((repeat refine Ws ?_);refine Wt (by first|rfl|simp only [EV,zF,reduceIte]) ?_)
  ((repeat refine Ws ?_);refine W_regionE T_ok ?_; intro Kn hKn)
  ((simp (maxSteps := 1000000) only [VL,VM,↓VG,reduceIte,reduceCtorEq,zA,zB,zC,zD,zE,zF,zG,zH,zI,zJ]); rw [hKn];clear hKn Kn;simp only [QV,reduceIte,reduceCtorEq,Nat.reduceEqDiff])
  (repeat refine Ws ?_)
  refine W_ret ?_
  try simp only [thenQ, blockQ]
  refine own_ret20t rfl ?_ ?_ (by rfl) (by rfl)
  ·simp only [get_cons, frz, vtup, Nat.reduceEqDiff, if_true, if_false, reduceIte]
   rw [fall (.inl (by omega))]
  ·simp only [get_cons, frz, vtup, Nat.reduceEqDiff, if_true, if_false, reduceIte]
   rw [fall (.inl (by omega))]
 have k1 : ((s.length : Int) < 1) = False := eq_false (by omega)
 rcases Nat.lt_or_ge 8 s.length with h7 | h7
 ·have k2 : ((8 : Int) < (s.length : Int)) = True := eq_true (by omega)
  ((simp (maxSteps := 1000000) only [VL,VM,↓VG,reduceIte,reduceCtorEq,zA,zB,zC,zD,zE,zF,zG,zH,zI,zJ, tx_size, k1, k2]); rw [hKn];clear hKn Kn;simp only [QV,reduceIte,reduceCtorEq,Nat.reduceEqDiff])
  ((repeat refine Ws ?_);refine Wt (by first|rfl|simp only [EV,zF,reduceIte]) ?_)
  ((repeat refine Ws ?_);refine W_regionE T_ok ?_; intro Kn hKn)
  ((simp (maxSteps := 1000000) only [VL,VM,↓VG,reduceIte,reduceCtorEq,zA,zB,zC,zD,zE,zF,zG,zH,zI,zJ]); rw [hKn];clear hKn Kn;simp only [QV,reduceIte,reduceCtorEq,Nat.reduceEqDiff])
  (repeat refine Ws ?_)
  refine W_ret ?_
  try simp only [thenQ, blockQ]
  refine own_ret20t rfl ?_ ?_ (by rfl) (by rfl)
  ·simp only [get_cons, frz, vtup, Nat.reduceEqDiff, if_true, if_false, reduceIte]
   rw [fall (.inr (.inl h7))]
  ·simp only [get_cons, frz, vtup, Nat.reduceEqDiff, if_true, if_false, reduceIte]
   rw [fall (.inr (.inl h7))]
 have k2 : ((8 : Int) < (s.length : Int)) = False := eq_false (by omega)
 have hx0 : (tx s)[0]? = some s[0] := by rw [tx_get, List.getElem?_eq_getElem h0]
 have hh : s.head? = some s[0] := by rw [List.head?_eq_getElem?, List.getElem?_eq_getElem h0]
 have hK : ¬ (s[0] = 48 ∧ 1 < s.length) → ∀ e', get e' 0 = vs s → get e' 23 = vb false → Kn e' M := by
  intro hno e' he h23
  have hnum : numR 8 s = (Lib.decFrom 0 s).map fun (n : Nat) => (n : Int) := by
   unfold numR
   rw [if_neg]
   rintro (h | h | ⟨h, h'⟩)
   ·omega
   ·omega
   ·rw [hh] at h
    exact hno ⟨Option.some.inj h, h'⟩
  rw [hKn]
  simp only [QV,reduceIte,reduceCtorEq,Nat.reduceEqDiff]
  clear hKn Kn
  (repeat refine Ws ?_)
  refine W_cond (b := false) (by simp only [ev]; exact h23) (fun h => by cases h) (fun _ => ?_)
  (((repeat refine Ws ?_);refine W_skip ?_); simp only [QV,reduceIte,reduceCtorEq,Nat.reduceEqDiff])
  ((repeat refine Ws ?_);refine W_regionE T_ok ?_; intro Kn hKn)
  ((simp (maxSteps := 1000000) only [VL,VM,↓VG,reduceIte,reduceCtorEq,zA,zB,zC,zD,zE,zF,zG,zH,zI,zJ]); rw [hKn];clear hKn Kn;simp only [QV,reduceIte,reduceCtorEq,Nat.reduceEqDiff])
  ((repeat refine Ws ?_);refine W_regionE T_ok ?_; intro Kn hKn)
  ((simp (maxSteps := 1000000) only [VL,VM,↓VG,reduceIte,reduceCtorEq,zA,zB,zC,zD,zE,zF,zG,zH,zI,zJ]); rw [hKn];clear hKn Kn;simp only [QV,reduceIte,reduceCtorEq,Nat.reduceEqDiff])
  ((repeat refine Ws ?_);refine W_block ?_; (repeat refine Ws ?_)); refine W_loopS (fun z : Nat × Nat => [(0, vs s), (4, vi z.2), (5, vi z.1)]) (fun _ => M) (fun z => s.length - z.1) (fun z => z.1 ≤ s.length ∧ Lib.decFrom 0 (s.take z.1) = some z.2 ∧ z.2 < 10 ^ z.1) (0, 0) ⟨Nat.zero_le _, rfl, by simp⟩ ⟨by simp [get_cons, he], rfl, rfl, trivial⟩ (by simp) ?_
  rintro ⟨i, n⟩ ⟨hi, hdec, hn⟩
  simp only at hi hdec hn
  have k3 : -9223372036854775808 ≤ (i : Int) + 1 ∧ (i : Int) + 1 < 9223372036854775808 := by omega
  ((repeat refine Ws ?_);refine W_regionE T_ok ?_; intro Kn hKn)
  rcases Nat.lt_or_ge i s.length with hlt | hge
  rotate_left
  ·have k4 : ((i : Int) < (s.length : Int)) = False := eq_false (by omega)
   obtain rfl : i = s.length := by omega
   rw [List.take_length] at hdec
   have hT : numT 8 s = ((n : Int), true) := by
    unfold numT
    rw [hnum, hdec]
    rfl
   ((simp (maxSteps := 1000000) only [VL,VM,↓VG,reduceIte,reduceCtorEq,zA,zB,zC,zD,zE,zF,zG,zH,zI,zJ, tx_size, k4]); rw [hKn];clear hKn Kn;simp only [QV,reduceIte,reduceCtorEq,Nat.reduceEqDiff])
   ((repeat refine Ws ?_);refine Wf (by first|rfl|simp only [EV,zF,reduceIte]) ?_)
   (((repeat refine Ws ?_);refine W_exit ?_); simp only [QV,reduceIte,reduceCtorEq,Nat.reduceEqDiff])
   ((repeat refine Ws ?_);refine W_regionE T_ok ?_; intro Kn hKn)
   ((simp (maxSteps := 1000000) only [VL,VM,↓VG,reduceIte,reduceCtorEq,zA,zB,zC,zD,zE,zF,zG,zH,zI,zJ]); rw [hKn];clear hKn Kn;simp only [QV,reduceIte,reduceCtorEq,Nat.reduceEqDiff])
   (repeat refine Ws ?_)
   refine W_ret ?_
   try simp only [thenQ, blockQ]
   refine own_ret20t rfl ?_ ?_ (by rfl) (by rfl)
   ·simp only [get_cons, frz, vtup, Nat.reduceEqDiff, if_true, if_false, reduceIte]
    rw [hT]
   ·simp only [get_cons, frz, vtup, Nat.reduceEqDiff, if_true, if_false, reduceIte]
    rw [hT]
  have k4 : ((i : Int) < (s.length : Int)) = True := eq_true (by omega)
  have hx : (tx s)[i]? = some s[i] := by rw [tx_get, List.getElem?_eq_getElem hlt]
  have hst := dec_step hlt hdec
  have hb := s[i].toNat_lt
  ((simp (maxSteps := 1000000) only [VL,VM,↓VG,reduceIte,reduceCtorEq,zA,zB,zC,zD,zE,zF,zG,zH,zI,zJ, tx_size, k4]); rw [hKn];clear hKn Kn;simp only [QV,reduceIte,reduceCtorEq,Nat.reduceEqDiff])
  ((repeat refine Ws ?_);refine Wt (by first|rfl|simp only [EV,zF,reduceIte]) ?_)
  (((repeat refine Ws ?_);refine W_skip ?_); simp only [QV,reduceIte,reduceCtorEq,Nat.reduceEqDiff])
  ((repeat refine Ws ?_);refine W_block ?_)
  ((repeat refine Ws ?_);refine W_regionE T_ok ?_; intro Kn hKn)
  by_cases hd : 48 ≤ s[i].toNat ∧ s[i].toNat ≤ 57
  ·have k5 : ((s[i].toNat : Int) < 48) = False := eq_false (by omega)
   have k6 : ((57 : Int) < (s[i].toNat : Int)) = False := eq_false (by omega)
   have hdv : Lib.digitVal s[i] = some (s[i].toNat - 48) := by unfold Lib.digitVal; rw [if_pos hd]
   rw [hdv] at hst
   have hp : 10 ^ i ≤ 10 ^ 7 := Nat.pow_le_pow_right (by omega) (by omega)
   have q1 := b_sub 5 (s[i].toNat : Int) 48 (by omega) (by omega) (by omega)
   have q2 := c_bi ((s[i].toNat : Int) - 48) (by omega) (by omega)
   have q3 : -9223372036854775808 ≤ (10 : Int) * n ∧ (10 : Int) * n < 9223372036854775808 := by omega
   have q4 : -9223372036854775808 ≤ (10 : Int) * n + ((s[i].toNat : Int) - 48) ∧ (10 : Int) * n + ((s[i].toNat : Int) - 48) < 9223372036854775808 := by omega
   ((simp (maxSteps := 1000000) only [VL,VM,↓VG,reduceIte,reduceCtorEq,zA,zB,zC,zD,zE,zF,zG,zH,zI,zJ, hx, b_lss, b_gtr, k5, k6]); rw [hKn];clear hKn Kn;simp only [QV,reduceIte,reduceCtorEq,Nat.reduceEqDiff])
   ((repeat refine Ws ?_);refine Wf (by first|rfl|simp only [EV,zF,reduceIte]) ?_)
   (((repeat refine Ws ?_);refine W_skip ?_); simp only [QV,reduceIte,reduceCtorEq,Nat.reduceEqDiff])
   ((repeat refine Ws ?_);refine W_regionE T_ok ?_; intro Kn hKn)
   ((simp (maxSteps := 1000000) only [VL,VM,↓VG,reduceIte,reduceCtorEq,zA,zB,zC,zD,zE,zF,zG,zH,zI,zJ, hx, q1, q2, q3, q4]); rw [hKn];clear hKn Kn;simp only [QV,reduceIte,reduceCtorEq,Nat.reduceEqDiff])
   ((repeat refine Ws ?_);refine W_regionE T_ok ?_; intro Kn hKn)
   ((simp (maxSteps := 1000000) only [VL,VM,↓VG,reduceIte,reduceCtorEq,zA,zB,zC,zD,zE,zF,zG,zH,zI,zJ, k3]); rw [hKn];clear hKn Kn;simp only [QV,reduceIte,reduceCtorEq,Nat.reduceEqDiff])
   refine LoopK.mk (i + 1, n * 10 + (s[i].toNat - 48)) (by simp only; omega) ⟨by simp only; omega, hst, by simp only [Nat.pow_succ]; omega⟩ ⟨?_, ?_, rfl, trivial⟩ rfl
   ·simp [get_cons, he]
   ·simp only [get_cons, Nat.reduceEqDiff, if_true, if_false, reduceIte]
    congr 2
    omega
  ·have hdv : Lib.digitVal s[i] = none := by unfold Lib.digitVal; rw [if_neg hd]
   rw [hdv] at hst
   have hT : numT 8 s = (0, false) := by
    unfold numT
    rw [hnum, dec_none hst]
    rfl
   by_cases h48 : s[i].toNat < 48
   ·have k5 : ((s[i].toNat : Int) < 48) = True := eq_true (by omega)
    ((simp (maxSteps := 1000000) only [VL,VM,↓VG,reduceIte,reduceCtorEq,zA,zB,zC,zD,zE,zF,zG,zH,zI,zJ, hx, b_lss, b_gtr, k5]); rw [hKn];clear hKn Kn;simp only [QV,reduceIte,reduceCtorEq,Nat.reduceEqDiff])
    ((repeat refine Ws ?_);refine Wt (by first|rfl|simp only [EV,zF,reduceIte]) ?_)
    ((repeat refine Ws ?_);refine W_regionE T_ok ?_; intro Kn hKn)
    ((simp (maxSteps := 1000000) only [VL,VM,↓VG,reduceIte,reduceCtorEq,zA,zB,zC,zD,zE,zF,zG,zH,zI,zJ]); rw [hKn];clear hKn Kn;simp only [QV,reduceIte,reduceCtorEq,Nat.reduceEqDiff])
    (repeat refine Ws ?_)
    refine W_ret ?_
    try simp only [thenQ, blockQ]
    refine own_ret20t rfl ?_ ?_ (by rfl) (by rfl)
    ·simp only [get_cons, frz, vtup, Nat.reduceEqDiff, if_true, if_false, reduceIte]
     rw [hT]
    ·simp only [get_cons, frz, vtup, Nat.reduceEqDiff, if_true, if_false, reduceIte]
     rw [hT]
   ·have k5 : ((s[i].toNat : Int) < 48) = False := eq_false (by omega)
    have k6 : ((57 : Int) < (s[i].toNat : Int)) = True := eq_true (by omega)
    ((simp (maxSteps := 1000000) only [VL,VM,↓VG,reduceIte,reduceCtorEq,zA,zB,zC,zD,zE,zF,zG,zH,zI,zJ, hx, b_lss, b_gtr, k5, k6]); rw [hKn];clear hKn Kn;simp only [QV,reduceIte,reduceCtorEq,Nat.reduceEqDiff])
    ((repeat refine Ws ?_);refine Wt (by first|rfl|simp only [EV,zF,reduceIte]) ?_)
    ((repeat refine Ws ?_);refine W_regionE T_ok ?_; intro Kn hKn)
    ((simp (maxSteps := 1000000) only [VL,VM,↓VG,reduceIte,reduceCtorEq,zA,zB,zC,zD,zE,zF,zG,zH,zI,zJ]); rw [hKn];clear hKn Kn;simp only [QV,reduceIte,reduceCtorEq,Nat.reduceEqDiff])
    (repeat refine Ws ?_)
    refine W_ret ?_
    try simp only [thenQ, blockQ]
    refine own_ret20t rfl ?_ ?_ (by rfl) (by rfl)
    ·simp only [get_cons, frz, vtup, Nat.reduceEqDiff, if_true, if_false, reduceIte]
     rw [hT]
    ·simp only [get_cons, frz, vtup, Nat.reduceEqDiff, if_true, if_false, reduceIte]
     rw [hT]
 by_cases hz : s[0] = 48
 ·have k3 : ((s[0].toNat : Int) = 48) = True := eq_true (by rw [hz]; rfl)
  by_cases h1 : 1 < s.length
  ·have k4 : ((1 : Int) < (s.length : Int)) = True := eq_true (by omega)
   clear hK
   ((simp (maxSteps := 1000000) only [VL,VM,↓VG,reduceIte,reduceCtorEq,zA,zB,zC,zD,zE,zF,zG,zH,zI,zJ, tx_size, k1, k2, hx0, b_eql, k3, k4]); rw [hKn];clear hKn Kn;simp only [QV,reduceIte,reduceCtorEq,Nat.reduceEqDiff])
   ((repeat refine Ws ?_);refine Wt (by first|rfl|simp only [EV,zF,reduceIte]) ?_)
   ((repeat refine Ws ?_);refine W_regionE T_ok ?_; intro Kn hKn)
   ((simp (maxSteps := 1000000) only [VL,VM,↓VG,reduceIte,reduceCtorEq,zA,zB,zC,zD,zE,zF,zG,zH,zI,zJ]); rw [hKn];clear hKn Kn;simp only [QV,reduceIte,reduceCtorEq,Nat.reduceEqDiff])
   (repeat refine Ws ?_)
   refine W_ret ?_
   try simp only [thenQ, blockQ]
   refine own_ret20t rfl ?_ ?_ (by rfl) (by rfl)
   ·simp only [get_cons, frz, vtup, Nat.reduceEqDiff, if_true, if_false, reduceIte]
    rw [fall (.inr (.inr ⟨by rw [hh, hz], h1⟩))]
   ·simp only [get_cons, frz, vtup, Nat.reduceEqDiff, if_true, if_false, reduceIte]
    rw [fall (.inr (.inr ⟨by rw [hh, hz], h1⟩))]
  ·have k4 : ((1 : Int) < (s.length : Int)) = False := eq_false (by omega)
   simp (maxSteps := 1000000) only [VL,VM,↓VG,reduceIte,reduceCtorEq,zA,zB,zC,zD,zE,zF,zG,zH,zI,zJ, tx_size, k1, k2, hx0, b_eql, k3, k4]
   exact hK (fun h => h1 h.2) _ rfl rfl
 ·have k3 : ((s[0].toNat : Int) = 48) = False := eq_false (fun e => hz (by
   apply UInt8.toNat_inj.1
   have : s[0].toNat = 48 := by omega
   rw [this]; rfl))
  simp (maxSteps := 1000000) only [VL,VM,↓VG,reduceIte,reduceCtorEq,zA,zB,zC,zD,zE,zF,zG,zH,zI,zJ, tx_size, k1, k2, hx0, b_eql, k3]
  exact hK (fun h => hz h.1) _ rfl rfl
end Go.Proofs.YtominlgikchnmaaGreatDoor.Vm

/- Plain: a row of a word and numbers, as it is read. -/
namespace Go.Proofs.YtominlgikchnmaaGreatDoor
open Go
def numsR (m : Nat) : List By → Option (List Int)
 | [] => some []
 | w :: ws => match numR m w, numsR m ws with
  | some n, some l => some (n :: l)
  | _, _ => none
theorem numsR_app (m : Nat) : ∀ (a b : List By), numsR m (a ++ b) = match numsR m a, numsR m b with
  | some l, some k => some (l ++ k)
  | _, _ => none
 | [], b => by
  simp only [List.nil_append, numsR]
  cases numsR m b <;> rfl
 | w :: a, b => by
  simp only [List.cons_append, numsR, numsR_app m a b]
  cases numR m w <;> cases numsR m a <;> cases numsR m b <;> rfl
theorem numsR_len {m : Nat} : ∀ {ws : List By} {l : List Int}, numsR m ws = some l → l.length = ws.length
 | [], l, h => by cases h; rfl
 | w :: ws, l, h => by
  simp only [numsR] at h
  split at h
  ·rename_i n k h1 h2
   cases h
   rw [List.length_cons, List.length_cons, numsR_len h2]
  ·cases h
def parseR (m : Nat) (s : By) : Option (By × List Int) := (numsR m ((cutL 32 s).drop 1)).map fun l => ((cutL 32 s).headD [], l)
theorem cutL_pos (c : UInt8) (s : By) : 0 < (cutL c s).length := List.length_pos_iff.2 (cutL_ne c s)
theorem cutL_len (c : UInt8) : ∀ s : By, (cutL c s).length ≤ s.length + 1
 | [] => by simp [cutL]
 | x :: r => by
  have := cutL_len c r
  rw [cutL]
  split
  ·simp; omega
  ·split
   ·simp
   ·rename_i p ps he
    rw [he] at this
    simp at this ⊢
    omega
theorem cutL_part (c : UInt8) : ∀ (s : By), ∀ p ∈ cutL c s, p.length ≤ s.length
 | [], p, h => by simp [cutL] at h; simp [h]
 | x :: r, p, h => by
  have ih := cutL_part c r
  rw [cutL] at h
  split at h
  ·rcases List.mem_cons.1 h with rfl | h
   ·simp
   ·have := ih p h; simp; omega
  ·split at h
   ·rename_i he
    exact absurd he (cutL_ne c r)
   ·rename_i q qs he
    rw [he] at ih
    rcases List.mem_cons.1 h with rfl | h
    ·have := ih q (by simp); simp; omega
    ·have := ih p (List.mem_cons_of_mem _ h); simp; omega
theorem numsR_step {m : Nat} {ws : List By} {i : Nat} {l : List Int} (h1 : 1 ≤ i) (hi : i < ws.length) (h : numsR m ((ws.take i).drop 1) = some l) : numsR m ((ws.take (i + 1)).drop 1) = match numR m ws[i] with
  | some n => some (l ++ [n])
  | none => none := by
 rw [List.take_succ_eq_append_getElem hi, List.drop_append_of_le_length (by rw [List.length_take]; omega), numsR_app, h]
 simp only [numsR]
 cases numR m ws[i] <;> rfl
theorem numsR_none {m : Nat} {ws : List By} {i : Nat} (h1 : 1 ≤ i) (hi : i ≤ ws.length) (h : numsR m ((ws.take i).drop 1) = none) : numsR m (ws.drop 1) = none := by
 have e : ws.drop 1 = (ws.take i).drop 1 ++ ws.drop i := by
  conv => lhs; rw [← List.take_append_drop i ws]
  rw [List.drop_append_of_le_length (by rw [List.length_take]; omega)]
 rw [e, numsR_app, h]
end Go.Proofs.YtominlgikchnmaaGreatDoor

/- The reference's parse, on values. (Vm) -/
namespace Go.Proofs.YtominlgikchnmaaGreatDoor.Vm
open Go Go.Proofs
theorem own_ret3t {T : Tab} {f : Nat} {fn : Func} {M : Mem} {L : List VObj} {e : Env} {t t' t'' : Nat} {X Y Z : VV} (h1 : fn.results.toList = [.tmp t, .tmp t', .tmp t'']) (hr : frz M.H.length (M.H ++ L) (get e t) = X) (hr' : frz M.H.length (M.H ++ L) (get e t') = Y) (hr'' : frz M.H.length (M.H ++ L) (get e t'') = Z) (h2 : refs X = []) (h2' : refs Y = []) (h2'' : refs Z = []) : ownQ T f fn M (fun r M' => M' = M ∧ r = .tup [X, Y, Z]) .ret e ⟨M.H ++ L, M.lg⟩ [] :=
 own_ret (vs := [get e t, get e t', get e t'']) (by rw [h1]; rfl) (by simp only [vtup, frz, frzL, hr, hr', hr'']) (by simp [refs, refsL, h2, h2', h2'']) ⟨rfl, rfl⟩
def parseT (m : Nat) (s : By) : VV := match parseR m s with
 | some (w, l) => .tup [vs w, intsV l, vb true]
 | none => .tup [vs [], .p (.sl 0 []), vb false]
structure ParS where
 i : Nat
 l : List Int
set_option maxHeartbeats 1000000 in
theorem rparse_v (s : By) (M : Mem) (hs : s.length ≤ 100000) : VC Tryz.prog 44 [vs s] M (fun r M' => M' = M ∧ r = parseT 8 s) := by
 refine VC_own' T_ok (f := 44) (fn := Tryz.f44) (by kernel_rfl) rfl Tryz.ntmps44 (by rfl) (by rfl) ?_
 ((repeat refine Ws ?_);refine W_regionE T_ok ?_; intro Kn hKn)
 ((simp (maxSteps := 1000000) only [VL,VM,↓VG,reduceIte,reduceCtorEq,zA,zB,zC,zD,zE,zF,zG,zH,zI,zJ]); rw [hKn];clear hKn Kn;simp only [QV,reduceIte,reduceCtorEq,Nat.reduceEqDiff])
 have hlen := cutL_len 32 s
 have hpos := cutL_pos 32 s
 have hpart := cutL_part 32 s
 ((repeat refine Ws ?_);refine W_regionE T_ok ?_; intro Kn hKn)
 simp (maxSteps := 1000000) only [VL,VM,↓VG,reduceIte,reduceCtorEq,zA,zB,zC,zD,zE,zF,zG,zH,zI,zJ]
 apply call_eq (f := 43) (fn := Tryz.f43) (by kernel_rfl) (by rfl)
 ·exact rsplit_v 32 s _ (by omega)
 ((simp (maxSteps := 1000000) only [VL,VM,↓VG,reduceIte,reduceCtorEq,zA,zB,zC,zD,zE,zF,zG,zH,zI,zJ]); rw [hKn];clear hKn Kn;simp only [QV,reduceIte,reduceCtorEq,Nat.reduceEqDiff])
 have hparse : parseR 8 s = (numsR 8 ((cutL 32 s).drop 1)).map fun l => ((cutL 32 s).headD [], l) := rfl
 generalize cutL 32 s = ws at hlen hpos hpart hparse ⊢
 ((repeat refine Ws ?_);refine W_regionE T_ok ?_; intro Kn hKn)
 ((simp (maxSteps := 1000000) only [VL,VM,↓VG,reduceIte,reduceCtorEq,zA,zB,zC,zD,zE,zF,zG,zH,zI,zJ]); rw [hKn];clear hKn Kn;simp only [QV,reduceIte,reduceCtorEq,Nat.reduceEqDiff])
 (repeat refine Ws ?_)
 refine W_tok (t := 6) (k := 1) rfl ?_
 ((repeat refine Ws ?_);refine W_regionE T_ok ?_; intro Kn hKn)
 ((simp (maxSteps := 1000000) only [VL,VM,↓VG,reduceIte,reduceCtorEq,zA,zB,zC,zD,zE,zF,zG,zH,zI,zJ]); rw [hKn];clear hKn Kn;simp only [QV,reduceIte,reduceCtorEq,Nat.reduceEqDiff])
 ((repeat refine Ws ?_);refine W_block ?_; (repeat refine Ws ?_)); refine W_loopS (fun z : ParS => [(5, strsW ws), (6, .so M.H.length 1 (z.l.map intP)), (7, vi z.i)]) (fun z => ⟨M.H ++ [.clm z.l.length 1], M.lg⟩) (fun z => ws.length - z.i) (fun z => 1 ≤ z.i ∧ z.i ≤ ws.length ∧ numsR 8 ((ws.take z.i).drop 1) = some z.l) ⟨1, []⟩ ⟨Nat.le_refl _, hpos, by simp [numsR]⟩ ⟨rfl, rfl, rfl, trivial⟩ (by simp) ?_
 rintro ⟨i, l⟩ ⟨h1, hi, hl⟩
 simp only at h1 hi hl
 have k1 : -9223372036854775808 ≤ (i : Int) + 1 ∧ (i : Int) + 1 < 9223372036854775808 := by omega
 have hll := numsR_len hl
 rw [List.length_drop, List.length_take] at hll
 ((repeat refine Ws ?_);refine W_regionE T_ok ?_; intro Kn hKn)
 rcases Nat.lt_or_ge i ws.length with hlt | hge
 rotate_left
 ·have k2 : ((i : Int) < (ws.length : Int)) = False := eq_false (by omega)
  obtain rfl : i = ws.length := by omega
  rw [List.take_length] at hl
  have hx := strs_at (List.getElem?_eq_getElem hpos)
  ((simp (maxSteps := 1000000) only [VL,VM,↓VG,reduceIte,reduceCtorEq,zA,zB,zC,zD,zE,zF,zG,zH,zI,zJ, strs_len, k2]); rw [hKn];clear hKn Kn;simp only [QV,reduceIte,reduceCtorEq,Nat.reduceEqDiff])
  ((repeat refine Ws ?_);refine Wf (by first|rfl|simp only [EV,zF,reduceIte]) ?_)
  (((repeat refine Ws ?_);refine W_exit ?_); simp only [QV,reduceIte,reduceCtorEq,Nat.reduceEqDiff])
  ((repeat refine Ws ?_);refine W_regionE T_ok ?_; intro Kn hKn)
  ((simp (maxSteps := 1000000) only [VL,VM,↓VG,reduceIte,reduceCtorEq,zA,zB,zC,zD,zE,zF,zG,zH,zI,zJ, hx]); rw [hKn];clear hKn Kn;simp only [QV,reduceIte,reduceCtorEq,Nat.reduceEqDiff])
  rw [show parseT 8 s = .tup [vs ws[0], intsV l, vb true] by
   unfold parseT
   rw [hparse, hl]
   simp only [Option.map_some]
   rw [show ws.headD [] = ws[0] by rw [List.headD_eq_head?_getD, List.head?_eq_getElem?, List.getElem?_eq_getElem hpos]; rfl]]
  (repeat refine Ws ?_)
  refine W_ret ?_
  try simp only [thenQ, blockQ]
  refine own_ret3t rfl ?_ ?_ ?_ (by rfl) (by rfl) (by rfl)
  ·simp only [get_cons, frz, vtup, Nat.reduceEqDiff, if_true, if_false, reduceIte]
  ·simp only [get_cons, frz, vtup, Nat.reduceEqDiff, if_true, if_false, reduceIte]
  ·simp only [get_cons, frz, vtup, Nat.reduceEqDiff, if_true, if_false, reduceIte]
 have k2 : ((i : Int) < (ws.length : Int)) = True := eq_true (by omega)
 have hx := strs_at (List.getElem?_eq_getElem hlt)
 have hst := numsR_step h1 hlt hl
 have hp := hpart ws[i] (List.getElem_mem hlt)
 ((simp (maxSteps := 1000000) only [VL,VM,↓VG,reduceIte,reduceCtorEq,zA,zB,zC,zD,zE,zF,zG,zH,zI,zJ, strs_len, k2]); rw [hKn];clear hKn Kn;simp only [QV,reduceIte,reduceCtorEq,Nat.reduceEqDiff])
 ((repeat refine Ws ?_);refine Wt (by first|rfl|simp only [EV,zF,reduceIte]) ?_)
 (((repeat refine Ws ?_);refine W_skip ?_); simp only [QV,reduceIte,reduceCtorEq,Nat.reduceEqDiff])
 ((repeat refine Ws ?_);refine W_block ?_)
 ((repeat refine Ws ?_);refine W_regionE T_ok ?_; intro Kn hKn)
 simp (maxSteps := 1000000) only [VL,VM,↓VG,reduceIte,reduceCtorEq,zA,zB,zC,zD,zE,zF,zG,zH,zI,zJ, hx]
 apply call_eq (f := 71) (fn := Tryz.f71) (by kernel_rfl) (by rfl)
 ·exact rnumber_v ws[i] _ (by omega)
 cases hn : numR 8 ws[i] with
 | none =>
  have hT : numT 8 ws[i] = (0, false) := by unfold numT; rw [hn]
  rw [hn] at hst
  ((simp (maxSteps := 1000000) only [VL,VM,↓VG,reduceIte,reduceCtorEq,zA,zB,zC,zD,zE,zF,zG,zH,zI,zJ, hT]); rw [hKn];clear hKn Kn;simp only [QV,reduceIte,reduceCtorEq,Nat.reduceEqDiff])
  ((repeat refine Ws ?_);refine W_regionE T_ok ?_; intro Kn hKn)
  ((simp (maxSteps := 1000000) only [VL,VM,↓VG,reduceIte,reduceCtorEq,zA,zB,zC,zD,zE,zF,zG,zH,zI,zJ]); rw [hKn];clear hKn Kn;simp only [QV,reduceIte,reduceCtorEq,Nat.reduceEqDiff])
  ((repeat refine Ws ?_);refine Wt (by first|rfl|simp only [EV,zF,reduceIte]) ?_)
  ((repeat refine Ws ?_);refine W_regionE T_ok ?_; intro Kn hKn)
  ((simp (maxSteps := 1000000) only [VL,VM,↓VG,reduceIte,reduceCtorEq,zA,zB,zC,zD,zE,zF,zG,zH,zI,zJ]); rw [hKn];clear hKn Kn;simp only [QV,reduceIte,reduceCtorEq,Nat.reduceEqDiff])
  rw [show parseT 8 s = .tup [vs [], .p (.sl 0 []), vb false] by
   unfold parseT
   rw [hparse, numsR_none (i := i + 1) (by omega) (by omega) hst]
   rfl]
  (repeat refine Ws ?_)
  refine W_ret ?_
  try simp only [thenQ, blockQ]
  refine own_ret3t rfl ?_ ?_ ?_ (by rfl) (by rfl) (by rfl)
  ·simp only [get_cons, frz, vtup, Nat.reduceEqDiff, if_true, if_false, reduceIte]
   rfl
  ·simp only [get_cons, frz, vtup, Nat.reduceEqDiff, if_true, if_false, reduceIte]
  ·simp only [get_cons, frz, vtup, Nat.reduceEqDiff, if_true, if_false, reduceIte]
 | some n =>
  have hT : numT 8 ws[i] = (n, true) := by unfold numT; rw [hn]
  rw [hn] at hst
  have q1 : ((l.length + 1) * 8 ≤ 140737488355328) = True := eq_true (by omega)
  ((simp (maxSteps := 1000000) only [VL,VM,↓VG,reduceIte,reduceCtorEq,zA,zB,zC,zD,zE,zF,zG,zH,zI,zJ, hT]); rw [hKn];clear hKn Kn;simp only [QV,reduceIte,reduceCtorEq,Nat.reduceEqDiff])
  ((repeat refine Ws ?_);refine W_regionE T_ok ?_; intro Kn hKn)
  ((simp (maxSteps := 1000000) only [VL,VM,↓VG,reduceIte,reduceCtorEq,zA,zB,zC,zD,zE,zF,zG,zH,zI,zJ]); rw [hKn];clear hKn Kn;simp only [QV,reduceIte,reduceCtorEq,Nat.reduceEqDiff])
  ((repeat refine Ws ?_);refine Wf (by first|rfl|simp only [EV,zF,reduceIte]) ?_)
  (((repeat refine Ws ?_);refine W_skip ?_); simp only [QV,reduceIte,reduceCtorEq,Nat.reduceEqDiff])
  ((repeat refine Ws ?_);refine W_regionE T_ok ?_; intro Kn hKn)
  ((simp (maxSteps := 1000000) only [VL,VM,↓VG,reduceIte,reduceCtorEq,zA,zB,zC,zD,zE,zF,zG,zH,zI,zJ, q1]); rw [hKn];clear hKn Kn;simp only [QV,reduceIte,reduceCtorEq,Nat.reduceEqDiff])
  ((repeat refine Ws ?_);refine W_regionE T_ok ?_; intro Kn hKn)
  ((simp (maxSteps := 1000000) only [VL,VM,↓VG,reduceIte,reduceCtorEq,zA,zB,zC,zD,zE,zF,zG,zH,zI,zJ, k1]); rw [hKn];clear hKn Kn;simp only [QV,reduceIte,reduceCtorEq,Nat.reduceEqDiff])
  refine LoopK.mk ⟨i + 1, l ++ [n]⟩ (by simp only; omega) ⟨by simp only; omega, by simp only; omega, hst⟩ ⟨rfl, ?_, rfl, trivial⟩ ?_
  ·simp [get_cons]
  ·simp
end Go.Proofs.YtominlgikchnmaaGreatDoor.Vm

/- Plain: what is read of a drawing. -/
namespace Go.Proofs.YtominlgikchnmaaGreatDoor
open Go
def y0 : Ha := ⟨0, 0, [], [], ⟨0, 0⟩, [], []⟩
def plOf (l : List Int) : Pl := ⟨l.getD 0 0, l.getD 1 0⟩
def kiOf (l : List Int) : Ki := ⟨l.getD 0 0, l.getD 1 0, decide (l.getD 2 0 = 1), l.drop 5, l.getD 3 0, l.getD 4 0⟩
def haOf (h : Ha) (l : List Int) : Ha := { h with wide := l.getD 0 0, deep := l.getD 1 0, bay := ⟨l.getD 2 0, l.getD 3 0⟩ }
def rsPut (i : Nat) (h : Ha) (w : By) (l : List Int) : Option (Ha × Bool) :=
 if i = 0 then (if w = wHall ∧ l.length = 4 then some (haOf h l, false) else none)
 else if w = wWater ∧ l.length = 2 ∧ h.shut.length + h.bears.length + h.kinds.length = 0 then some ({ h with water := h.water ++ [plOf l] }, false)
 else if w = wShut ∧ l.length = 2 ∧ h.bears.length + h.kinds.length = 0 then some ({ h with shut := h.shut ++ [plOf l] }, false)
 else if w = wBears ∧ l.length = 1 ∧ h.kinds.length = 0 then some ({ h with bears := h.bears ++ [l.getD 0 0] }, false)
 else if w = wKind ∧ 5 ≤ l.length ∧ l.getD 2 0 < 2 then some ({ h with kinds := h.kinds ++ [kiOf l] }, false)
 else if w = wEnd ∧ l.length = 1 then (if l.getD 0 0 = (h.kinds.length : Int) then some (h, true) else none)
 else none
def rsStep (i : Nat) (st : Ha × Bool) (row : By) : Option (Ha × Bool) := match parseR 8 row with
 | none => none
 | some (w, l) => if st.2 then none else rsPut i st.1 w l
def rsRun : Nat → Ha × Bool → List By → Nat ⊕ (Ha × Bool)
 | _, st, [] => .inr st
 | i, st, r :: rs => match rsStep i st r with
  | none => .inl i
  | some st' => rsRun (i + 1) st' rs
def rsEnd (rows : List By) (st : Ha × Bool) : Ha × Int × Int :=
 if st.2 = false ∨ rows.getD (rows.length - 1) [] ≠ [] then (y0, (rows.length : Int), 2)
 else if hallErr st.1 = 0 then (st.1, 0, 0) else (y0, 0, hallErr st.1)
def rsRead (s : By) : Ha × Int × Int :=
 if 2500 < s.length then (y0, 0, 10)
 else match rsRun 0 (y0, false) ((cutL 10 s).take ((cutL 10 s).length - 1)) with
  | .inl i => (y0, (i : Int) + 1, 2)
  | .inr st => rsEnd (cutL 10 s) st
theorem rsRun_app : ∀ (a b : List By) (i : Nat) (st : Ha × Bool), rsRun i st (a ++ b) = match rsRun i st a with
  | .inl k => .inl k
  | .inr st' => rsRun (i + a.length) st' b
 | [], b, i, st => rfl
 | r :: a, b, i, st => by
  simp only [List.cons_append, rsRun]
  cases rsStep i st r with
  | none => rfl
  | some st' =>
   simp only
   rw [rsRun_app a b (i + 1) st', List.length_cons, show i + 1 + a.length = i + (a.length + 1) by omega]
theorem rsRun_step {rows : List By} {i : Nat} {st : Ha × Bool} (hi : i < rows.length) (h : rsRun 0 (y0, false) (rows.take i) = .inr st) : rsRun 0 (y0, false) (rows.take (i + 1)) = match rsStep i st rows[i] with
  | none => .inl i
  | some st' => .inr st' := by
 rw [List.take_succ_eq_append_getElem hi, rsRun_app, h]
 simp only
 rw [show 0 + (rows.take i).length = i by rw [List.length_take]; omega]
 simp only [rsRun]
theorem rsRun_bad {rows : List By} {i n k : Nat} (hn : i ≤ n) (h : rsRun 0 (y0, false) (rows.take i) = .inl k) : rsRun 0 (y0, false) (rows.take n) = .inl k := by
 have e : rows.take n = rows.take i ++ (rows.drop i).take (n - i) := by
  rw [show n = i + (n - i) by omega, List.take_add]
  simp
 rw [e, rsRun_app, h]
structure RsOk (i : Nat) (y : Ha) : Prop where
 w : y.water.length ≤ i
 s : y.shut.length ≤ i
 b : y.bears.length ≤ i
 c : y.kinds.length ≤ i
 l : ∀ c ∈ y.kinds, c.away.length ≤ 100000
theorem parseR_len {m : Nat} {s w : By} {l : List Int} (h : parseR m s = some (w, l)) : l.length ≤ s.length := by
 unfold parseR at h
 obtain ⟨k, h1, h2⟩ := Option.map_eq_some_iff.1 h
 cases h2
 rw [numsR_len h1, List.length_drop]
 have := cutL_len 32 s
 omega
theorem rsPut_ok {i : Nat} {y y' : Ha} {b : Bool} {w : By} {l : List Int} (h : rsPut i y w l = some (y', b)) (hy : RsOk i y) (hl : l.length ≤ 100000) : RsOk (i + 1) y' := by
 have hw := hy.w
 have hs := hy.s
 have hb := hy.b
 have hc := hy.c
 have hl' := hy.l
 unfold rsPut at h
 split at h
 ·split at h
  ·cases h; exact ⟨by simp only [haOf]; omega, by simp only [haOf]; omega, by simp only [haOf]; omega, by simp only [haOf]; omega, hl'⟩
  ·cases h
 ·split at h
  ·cases h; exact ⟨by simp; omega, by simp only; omega, by simp only; omega, by simp only; omega, hl'⟩
  ·split at h
   ·cases h; exact ⟨by simp only; omega, by simp; omega, by simp only; omega, by simp only; omega, hl'⟩
   ·split at h
    ·cases h; exact ⟨by simp only; omega, by simp only; omega, by simp; omega, by simp only; omega, hl'⟩
    ·split at h
     ·cases h
      refine ⟨by simp only; omega, by simp only; omega, by simp only; omega, by simp; omega, fun c hcc => ?_⟩
      rcases List.mem_append.1 hcc with h1 | h1
      ·exact hl' c h1
      ·simp only [List.mem_singleton] at h1
       subst h1
       simp only [kiOf, List.length_drop]
       omega
     ·split at h
      ·split at h
       ·cases h; exact ⟨by omega, by omega, by omega, by omega, hl'⟩
       ·cases h
      ·cases h
theorem rsStep_ok {i : Nat} {st st' : Ha × Bool} {row : By} (h : rsStep i st row = some st') (hy : RsOk i st.1) (hl : row.length ≤ 100000) : RsOk (i + 1) st'.1 := by
 unfold rsStep at h
 split at h
 ·cases h
 ·rename_i w l hp
  split at h
  ·cases h
  ·have := parseR_len hp
   exact rsPut_ok (b := st'.2) h hy (by omega)
end Go.Proofs.YtominlgikchnmaaGreatDoor

/- Plain: the words of a row, as the program reads them. -/
namespace Go.Proofs.YtominlgikchnmaaGreatDoor
open Go Vm
theorem numR_atoi (s : By) : numR 8 s = if (atoiV s).2 = true ∧ 0 ≤ (atoiV s).1 ∧ s.length ≤ 8 ∧ Lib.itoa (atoiV s).1 = s then some (atoiV s).1 else none := by
 rw [← numP_eq (m := 8) (by omega) s]
 unfold numP atoiV
 cases Lib.atoiAll s with
 | ok x => simp
 | «syntax» => simp
 | range => simp
theorem atoiV_fit (s : By) : -9223372036854775808 ≤ (atoiV s).1 ∧ (atoiV s).1 ≤ 9223372036854775807 := by
 unfold atoiV
 cases h : Lib.atoiAll s with
 | ok x => exact Lib.atoiAll_bounds h
 | «syntax» => exact ⟨show (-9223372036854775808 : Int) ≤ 0 by decide, show (0 : Int) ≤ 9223372036854775807 by decide⟩
 | range => exact Lib.atoiSat_bounds s
theorem numsR_take {m : Nat} {ws : List By} {k : Nat} (hk : k < ws.length) : numsR m (ws.take (k + 1)) = match numsR m (ws.take k), numR m ws[k] with
  | some l, some n => some (l ++ [n])
  | _, _ => none := by
 rw [List.take_succ_eq_append_getElem hk, numsR_app]
 simp only [numsR]
 cases numsR m (ws.take k) <;> cases numR m ws[k] <;> rfl
end Go.Proofs.YtominlgikchnmaaGreatDoor
