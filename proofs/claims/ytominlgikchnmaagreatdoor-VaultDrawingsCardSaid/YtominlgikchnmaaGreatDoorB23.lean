/- A part of the proofs about the chapter of the vaults; it states no condition of its own. -/
import Derived.Test.YtominlgikchnmaaGreatDoorB22
set_option linter.unusedVariables false
set_option linter.unusedSimpArgs false
open Int renaming reduceLE → zA, reduceLT → zB, reduceToNat → zC, reduceNeg → zD
open Nat renaming reduceLT → zE, reduceEqDiff → zF, reduceAdd → zG, reduceSub → zH, reduceMul → zI, reduceLeDiff → zJ
/- Dice made of numbers, places, loads, on values. (Vm) -/
namespace Go.Proofs.YtominlgikchnmaaGreatDoor.Vm
open Go Go.Proofs
theorem VC_esc {P : Program} {T : Tab} (hT : TabOk P T) {f : Nat} {fn : Func} {c : Code} {nt : Nat} {args : List VV} {M : Mem} {Q : VV → Mem → Prop} (hf : T.fn f = some fn) (hb : fn.body = some c) (hnt : fn.ntmps = nt) (hn : Nat.ble args.length nt = true) (hk : T.keeps f = false)
  (h : WCode P ⟨f, none, nt⟩ c (zipEnv 0 args) M [] (fun ex e M' D => (ex = .normal ∨ ex = .ret) ∧ D = [] ∧ ∃ vs, vresL T e M' fn.results.toList = some vs ∧ (∃ x ∈ refs (frz M.H.length M'.H (vtup vs)), M.H.length ≤ x) ∧ Q (vtup vs) M')) : VC P f args M Q := by
 subst hnt
 refine VC_fn hT hf hb (Nat.le_of_ble_eq_true hn) fun hlg => h.mono ?_
 rintro ex e M' D ⟨hex, rfl, vs, h1, ⟨x, hx, hx2⟩, h3⟩
 have key : retQ T f M.H.length fn Q .ret e M' [] := by
  simp only [retQ, vkill]
  have hM : ({ M' with H := M'.H } : Mem) = M' := rfl
  rw [hM, h1]
  simp only
  have q3 : ((refs (frz M.H.length M'.H (vtup vs))).all (Nat.blt · M.H.length)) = false := by
   rw [List.all_eq_false]
   exact ⟨x, hx, by rw [Nat.blt_eq]; omega⟩
  unfold vfinish
  rw [hk, q3, Bool.and_false]
  exact h3
 rcases hex with rfl | rfl
 ·exact key
 ·exact key
def dieU : List Int → Int := List.foldl (fun u x => nextU (wrU (xorU u (wrU x) * 11507291218515648293))) 2611923443488327891
theorem dieU_take {xs : List Int} {i : Nat} {x : Int} (h : xs[i]? = some x) : dieU (xs.take (i + 1)) = nextU (wrU (xorU (dieU (xs.take i)) (wrU x) * 11507291218515648293)) := by
 rw [List.take_add_one, h]
 simp [dieU, Option.toList]
theorem dieOf_v (xs : List Int) (M : Mem) (hl : xs.length ≤ maxLen) : VC Tryz.prog 8 [intsV xs] M (fun r M' => M' = ⟨DH (M.H ++ [.dead]) M.H.length (dieU xs) [], M.lg⟩ ∧ r = .ptr M.H.length 0) := by
 have hmx : maxLen < 9223372036854775808 := by decide
 have hd : M.H.length < (M.H ++ [VObj.dead]).length := by simp
 refine VC_esc T_ok (f := 8) (fn := Tryz.f8) (by kernel_rfl) rfl Tryz.ntmps8 (by rfl) (by rfl) ?_
 ((repeat refine Ws ?_);refine Wr ?_)
 simp (maxSteps := 1000000) only [VL,VM,↓VG,reduceIte,reduceCtorEq,zA,zB,zC,zD,zE,zF,zG,zH,zI,zJ]
 ((repeat refine Ws ?_);refine Wr ?_)
 simp (maxSteps := 1000000) only [VL,VM,↓VG,reduceIte,reduceCtorEq,zA,zB,zC,zD,zE,zF,zG,zH,zI,zJ]
 rw [show M.H ++ [VObj.obj [uv 2611923443488327891]] = DH (M.H ++ [VObj.dead]) M.H.length (dieU []) [] by simp [DH, dieU]]
 ((repeat refine Ws ?_);refine Wr ?_)
 simp (maxSteps := 1000000) only [VL,VM,↓VG,reduceIte,reduceCtorEq,zA,zB,zC,zD,zE,zF,zG,zH,zI,zJ]
 ((repeat refine Ws ?_);refine W_block ?_; (repeat refine Ws ?_)); refine W_loopS (fun i : Nat => [(0, intsV xs), (3, .ptr M.H.length 0), (4, vi i)]) (fun i => ⟨DH (M.H ++ [VObj.dead]) M.H.length (dieU (xs.take i)) [], M.lg⟩) (fun i => xs.length - i) (fun i => i ≤ xs.length) 0 (Nat.zero_le _) ⟨rfl, rfl, rfl, trivial⟩ rfl ?_
 rintro i hi
 ((repeat refine Ws ?_);refine Wr ?_)
 rcases Nat.lt_or_ge i xs.length with hlt | hge
 ·have k1 : -9223372036854775808 ≤ (i : Int) + 1 ∧ (i : Int) + 1 < 9223372036854775808 := by omega
  have k2 : ((i : Int) < (xs.length : Int)) = True := eq_true (by omega)
  have hx : xs[i]? = some xs[i] := List.getElem?_eq_getElem hlt
  have hx' := map_at (f := intP) hx
  generalize hc : xs[i] = x at hx hx'
  simp (maxSteps := 1000000) only [VL,VM,↓VG,reduceIte,reduceCtorEq,zA,zB,zC,zD,zE,zF,zG,zH,zI,zJ, k2]
  ((repeat refine Ws ?_);refine Wt (by first|rfl|simp only [EV,zF,reduceIte]) ?_)
  ((repeat refine Ws ?_);refine W_skip ?_)
  simp (maxSteps := 1000000) only [VL,VM,↓VG,reduceIte,reduceCtorEq,zA,zB,zC,zD,zE,zF,zG,zH,zI,zJ]
  ((repeat refine Ws ?_);refine W_block ?_)
  (repeat refine Ws ?_)
  refine W_drawP T_ok [] (by kernel_rfl) (by kernel_rfl) ?_
  generalize hi : mkPlan _ = infs
  cbv at hi
  subst hi
  simp (maxSteps := 1000000) only [VL,VM,↓VG,reduceIte,reduceCtorEq,zA,zB,zC,zD,zE,zF,zG,zH,zI,zJ, DH_die hd, DH_setd, hx', c_iu, u_xor, u_mul]
  ((repeat refine Ws ?_);refine Wr ?_)
  simp (maxSteps := 1000000) only [VL,VM,↓VG,reduceIte,reduceCtorEq,zA,zB,zC,zD,zE,zF,zG,zH,zI,zJ]
  apply call_eq (f := 31) (fn := Tryz.f31) (by kernel_rfl) (by rfl)
  ·exact roll_v hd (wrU (xorU (dieU (xs.take i)) (wrU x) * 11507291218515648293)) M.lg
  simp (maxSteps := 1000000) only [VL,VM,↓VG,reduceIte,reduceCtorEq,zA,zB,zC,zD,zE,zF,zG,zH,zI,zJ]
  ((repeat refine Ws ?_);refine Wr ?_)
  simp (maxSteps := 1000000) only [VL,VM,↓VG,reduceIte,reduceCtorEq,zA,zB,zC,zD,zE,zF,zG,zH,zI,zJ, k1]
  refine LoopK.mk (i + 1) (by omega) (by omega) ⟨rfl, rfl, rfl, trivial⟩ ?_
  simp only [dieU_take hx]
 ·have k2 : ((i : Int) < (xs.length : Int)) = False := eq_false (by omega)
  obtain rfl : i = xs.length := by omega
  rw [List.take_length]
  simp (maxSteps := 1000000) only [VL,VM,↓VG,reduceIte,reduceCtorEq,zA,zB,zC,zD,zE,zF,zG,zH,zI,zJ, k2]
  ((repeat refine Ws ?_);refine Wf (by first|rfl|simp only [EV,zF,reduceIte]) ?_)
  ((repeat refine Ws ?_);refine W_exit ?_)
  simp (maxSteps := 1000000) only [VL,VM,↓VG,reduceIte,reduceCtorEq,zA,zB,zC,zD,zE,zF,zG,zH,zI,zJ]
  ((repeat refine Ws ?_);refine Wr ?_)
  simp (maxSteps := 1000000) only [VL,VM,↓VG,reduceIte,reduceCtorEq,zA,zB,zC,zD,zE,zF,zG,zH,zI,zJ]
  (repeat refine Ws ?_)
  refine W_ret ⟨.inr rfl, rfl, [.ptr M.H.length 0], rfl, ⟨M.H.length, by simp [vtup, frz, refs], Nat.le_refl _⟩, rfl, rfl⟩
theorem places_v (h : Ha) (wd dp : Nat) (M : Mem) (hwd : h.wide = wd) (hdp : h.deep = dp) (h6 : wd ≤ 1000) (h4 : dp ≤ 1000) : VC Tryz.prog 25 [hallV h] M (fun r M' => M' = M ∧ r = plsV (rowsOf dp wd)) := by
 refine VC_own' T_ok (f := 25) (fn := Tryz.f25) (by kernel_rfl) rfl Tryz.ntmps25 (by rfl) (by rfl) ?_
 ((repeat refine Ws ?_);refine Wr ?_)
 simp (maxSteps := 1000000) only [VL,VM,↓VG,reduceIte,reduceCtorEq,zA,zB,zC,zD,zE,zF,zG,zH,zI,zJ]
 ((repeat refine Ws ?_);refine Wr ?_)
 simp (maxSteps := 1000000) only [VL,VM,↓VG,reduceIte,reduceCtorEq,zA,zB,zC,zD,zE,zF,zG,zH,zI,zJ]
 refine W_tok (t := 3) (k := 2) rfl ?_
 ((repeat refine Ws ?_);refine Wr ?_)
 simp (maxSteps := 1000000) only [VL,VM,↓VG,reduceIte,reduceCtorEq,zA,zB,zC,zD,zE,zF,zG,zH,zI,zJ]
 ((repeat refine Ws ?_);refine W_block ?_; (repeat refine Ws ?_)); refine W_loopS (fun y : Nat => [(0, hallV h), (1, .ptr M.H.length 0), (3, .so (M.H.length + 1) 2 ((rowsOf y wd).map plP)), (4, vi y)]) (fun y => ⟨M.H ++ [VObj.obj (hallC h), VObj.clm (rowsOf y wd).length 2], M.lg⟩) (fun y => dp - y) (fun y => y ≤ dp) 0 (Nat.zero_le _) ⟨rfl, rfl, rfl, rfl, trivial⟩ rfl ?_
 rintro y hy
 have k1 : -9223372036854775808 ≤ (y : Int) + 1 ∧ (y : Int) + 1 < 9223372036854775808 := by omega
 ((repeat refine Ws ?_);refine Wr ?_)
 rcases Nat.lt_or_ge y dp with hlt | hge
 ·have k2 : ((y : Int) < h.deep) = True := eq_true (by omega)
  simp (maxSteps := 1000000) only [VL,VM,↓VG,reduceIte,reduceCtorEq,zA,zB,zC,zD,zE,zF,zG,zH,zI,zJ, k2]
  ((repeat refine Ws ?_);refine Wt (by first|rfl|simp only [EV,zF,reduceIte]) ?_)
  ((repeat refine Ws ?_);refine W_skip ?_)
  simp (maxSteps := 1000000) only [VL,VM,↓VG,reduceIte,reduceCtorEq,zA,zB,zC,zD,zE,zF,zG,zH,zI,zJ]
  ((repeat refine Ws ?_);refine W_block ?_)
  ((repeat refine Ws ?_);refine Wr ?_)
  simp (maxSteps := 1000000) only [VL,VM,↓VG,reduceIte,reduceCtorEq,zA,zB,zC,zD,zE,zF,zG,zH,zI,zJ]
  ((repeat refine Ws ?_);refine W_block ?_; (repeat refine Ws ?_)); refine W_loopS (fun x : Nat => [(0, hallV h), (1, .ptr M.H.length 0), (3, .so (M.H.length + 1) 2 ((rowsOf y wd ++ rowOf y x).map plP)), (4, vi y), (5, vi x)]) (fun x => ⟨M.H ++ [VObj.obj (hallC h), VObj.clm (rowsOf y wd ++ rowOf y x).length 2], M.lg⟩) (fun x => wd - x) (fun x => x ≤ wd) 0 (Nat.zero_le _) ⟨rfl, rfl, by simp [rowOf, get_cons], rfl, rfl, trivial⟩ (by simp [rowOf]) ?_
  rintro x hx
  have j1 : -9223372036854775808 ≤ (x : Int) + 1 ∧ (x : Int) + 1 < 9223372036854775808 := by omega
  ((repeat refine Ws ?_);refine Wr ?_)
  rcases Nat.lt_or_ge x wd with hlt' | hge'
  ·have j2 : ((x : Int) < h.wide) = True := eq_true (by omega)
   have hl : (rowsOf y wd ++ rowOf y x).length ≤ 2000000 := by
    rw [List.length_append, rowsOf_len]
    have : y * wd ≤ 1000 * 1000 := Nat.mul_le_mul (by omega) h6
    simp [rowOf]; omega
   have hs := rowOf_succ y x
   generalize hL : rowsOf y wd ++ rowOf y x = l at hl
   have q1 : ((l.length + 1) * 16 ≤ 140737488355328) = True := eq_true (by omega)
   simp (maxSteps := 1000000) only [VL,VM,↓VG,reduceIte,reduceCtorEq,zA,zB,zC,zD,zE,zF,zG,zH,zI,zJ, j2]
   ((repeat refine Ws ?_);refine Wt (by first|rfl|simp only [EV,zF,reduceIte]) ?_)
   ((repeat refine Ws ?_);refine W_skip ?_)
   simp (maxSteps := 1000000) only [VL,VM,↓VG,reduceIte,reduceCtorEq,zA,zB,zC,zD,zE,zF,zG,zH,zI,zJ]
   ((repeat refine Ws ?_);refine W_block ?_)
   ((repeat refine Ws ?_);refine Wr ?_)
   simp (maxSteps := 1000000) only [VL,VM,↓VG,reduceIte,reduceCtorEq,zA,zB,zC,zD,zE,zF,zG,zH,zI,zJ, vappend, q1]
   ((repeat refine Ws ?_);refine Wr ?_)
   simp (maxSteps := 1000000) only [VL,VM,↓VG,reduceIte,reduceCtorEq,zA,zB,zC,zD,zE,zF,zG,zH,zI,zJ, j1]
   refine LoopK.mk (x + 1) (by omega) (by omega) ⟨rfl, rfl, ?_, rfl, rfl, trivial⟩ ?_
   ·rw [hs, ← List.append_assoc, hL]
    simp [get_cons]
   ·subst hL
    simp only [hs, List.length_append, List.length_cons, List.length_nil, Nat.zero_add, Nat.add_assoc]
  ·have j2 : ((x : Int) < h.wide) = False := eq_false (by omega)
   obtain rfl : x = wd := by omega
   simp (maxSteps := 1000000) only [VL,VM,↓VG,reduceIte,reduceCtorEq,zA,zB,zC,zD,zE,zF,zG,zH,zI,zJ, j2]
   ((repeat refine Ws ?_);refine Wf (by first|rfl|simp only [EV,zF,reduceIte]) ?_)
   ((repeat refine Ws ?_);refine W_exit ?_)
   simp (maxSteps := 1000000) only [VL,VM,↓VG,reduceIte,reduceCtorEq,zA,zB,zC,zD,zE,zF,zG,zH,zI,zJ]
   ((repeat refine Ws ?_);refine Wr ?_)
   simp (maxSteps := 1000000) only [VL,VM,↓VG,reduceIte,reduceCtorEq,zA,zB,zC,zD,zE,zF,zG,zH,zI,zJ, k1]
   refine LoopK.mk (y + 1) (by omega) (by omega) ⟨rfl, rfl, ?_, rfl, trivial⟩ ?_
   ·rw [rowsOf_succ]; rfl
   ·simp only [rowsOf_succ, List.length_append]
 ·have k2 : ((y : Int) < h.deep) = False := eq_false (by omega)
  obtain rfl : y = dp := by omega
  simp (maxSteps := 1000000) only [VL,VM,↓VG,reduceIte,reduceCtorEq,zA,zB,zC,zD,zE,zF,zG,zH,zI,zJ, k2]
  ((repeat refine Ws ?_);refine Wf (by first|rfl|simp only [EV,zF,reduceIte]) ?_)
  ((repeat refine Ws ?_);refine W_exit ?_)
  simp (maxSteps := 1000000) only [VL,VM,↓VG,reduceIte,reduceCtorEq,zA,zB,zC,zD,zE,zF,zG,zH,zI,zJ]
  ((repeat refine Ws ?_);refine Wr ?_)
  simp (maxSteps := 1000000) only [VL,VM,↓VG,reduceIte,reduceCtorEq,zA,zB,zC,zD,zE,zF,zG,zH,zI,zJ]
  (repeat refine Ws ?_)
  refine W_ret ?_
  try simp only [thenQ, blockQ]
  refine own_ret1 rfl ?_ (by rfl)
  simp only [get_cons, frz, vtup, Nat.reduceEqDiff, if_true, if_false, reduceIte]
end Go.Proofs.YtominlgikchnmaaGreatDoor.Vm

/- Lists that are the same, on values. (Vm) -/
namespace Go.Proofs.YtominlgikchnmaaGreatDoor.Vm
open Go Go.Proofs
theorem take_same {α : Type} {xs ys : List α} {i : Nat} {x y : α} (hx : xs[i]? = some x) (hy : ys[i]? = some y) (h : xs.take i = ys.take i) : xs.take (i + 1) = ys.take (i + 1) ↔ x = y := by
 rw [List.take_add_one, List.take_add_one, hx, hy, h]
 simp
theorem sameInts_v (xs ys : List Int) (M : Mem) (h1 : xs.length ≤ 1000000) (h2 : ys.length ≤ 1000000) : VC Tryz.prog 46 [intsV xs, intsV ys] M (fun r M' => M' = M ∧ r = vb (decide (xs = ys))) := by
 refine VC_own' T_ok (f := 46) (fn := Tryz.f46) (by kernel_rfl) rfl Tryz.ntmps46 (by rfl) (by rfl) ?_
 ((repeat refine Ws ?_);refine Wr ?_)
 simp (maxSteps := 1000000) only [VL,VM,↓VG,reduceIte,reduceCtorEq,zA,zB,zC,zD,zE,zF,zG,zH,zI,zJ]
 ((repeat refine Ws ?_);refine Wr ?_)
 simp (maxSteps := 1000000) only [VL,VM,↓VG,reduceIte,reduceCtorEq,zA,zB,zC,zD,zE,zF,zG,zH,zI,zJ]
 ((repeat refine Ws ?_);refine Wr ?_)
 simp (maxSteps := 1000000) only [VL,VM,↓VG,reduceIte,reduceCtorEq,zA,zB,zC,zD,zE,zF,zG,zH,zI,zJ]
 ((repeat refine Ws ?_);refine W_block ?_; (repeat refine Ws ?_)); refine W_loopS (fun s : Nat × Bool => [(0, intsV xs), (1, intsV ys), (5, vb s.2), (6, vi s.1)]) (fun _ => M) (fun s => xs.length - s.1) (fun s => s.1 ≤ xs.length ∧ s.2 = decide (xs.length = ys.length ∧ xs.take s.1 = ys.take s.1)) (0, decide ((xs.length : Int) = (ys.length : Int))) ⟨Nat.zero_le _, by simp only [List.take_zero, and_true]; rw [decide_eq_decide]; omega⟩ ⟨rfl, rfl, rfl, rfl, trivial⟩ rfl ?_
 rintro ⟨i, b⟩ ⟨hi, hb⟩
 simp only at hi hb
 have k1 : -9223372036854775808 ≤ (i : Int) + 1 ∧ (i : Int) + 1 < 9223372036854775808 := by omega
 cases b with
 | false =>
  have hne : decide (xs = ys) = false := by
   rw [decide_eq_false_iff_not]
   intro e
   have := of_decide_eq_false hb.symm
   exact this ⟨by rw [e], by rw [e]⟩
  ((repeat refine Ws ?_);refine Wr ?_)
  simp (maxSteps := 1000000) only [VL,VM,↓VG,reduceIte,reduceCtorEq,zA,zB,zC,zD,zE,zF,zG,zH,zI,zJ]
  ((repeat refine Ws ?_);refine Wf (by first|rfl|simp only [EV,zF,reduceIte]) ?_)
  ((repeat refine Ws ?_);refine W_exit ?_)
  simp (maxSteps := 1000000) only [VL,VM,↓VG,reduceIte,reduceCtorEq,zA,zB,zC,zD,zE,zF,zG,zH,zI,zJ]
  ((repeat refine Ws ?_);refine Wr ?_)
  simp (maxSteps := 1000000) only [VL,VM,↓VG,reduceIte,reduceCtorEq,zA,zB,zC,zD,zE,zF,zG,zH,zI,zJ]
  (repeat refine Ws ?_)
  refine W_ret ?_
  try simp only [thenQ, blockQ]
  refine own_ret10 rfl ?_ (by rfl)
  simp only [get_cons, frz, vtup, Nat.reduceEqDiff, if_true, if_false, reduceIte]
  rw [hne]
 | true =>
  obtain ⟨hl, ht⟩ := of_decide_eq_true hb.symm
  rcases Nat.lt_or_ge i xs.length with hlt | hge
  ·have k2 : ((i : Int) < (xs.length : Int)) = True := eq_true (by omega)
   have hx : xs[i]? = some xs[i] := List.getElem?_eq_getElem hlt
   have hy : ys[i]? = some (ys[i]'(by omega)) := List.getElem?_eq_getElem (by omega)
   have hx' := map_at (f := intP) hx
   have hy' := map_at (f := intP) hy
   have hs := take_same hx hy ht
   generalize xs[i] = x at hx hx' hs
   generalize ys[i]'(by omega) = y at hy hy' hs
   ((repeat refine Ws ?_);refine Wr ?_)
   simp (maxSteps := 1000000) only [VL,VM,↓VG,reduceIte,reduceCtorEq,zA,zB,zC,zD,zE,zF,zG,zH,zI,zJ, k2]
   ((repeat refine Ws ?_);refine Wt (by first|rfl|simp only [EV,zF,reduceIte]) ?_)
   ((repeat refine Ws ?_);refine W_skip ?_)
   simp (maxSteps := 1000000) only [VL,VM,↓VG,reduceIte,reduceCtorEq,zA,zB,zC,zD,zE,zF,zG,zH,zI,zJ]
   ((repeat refine Ws ?_);refine W_block ?_)
   (repeat refine Ws ?_)
   refine W_drawP T_ok [] (by kernel_rfl) (by kernel_rfl) ?_
   generalize hi : mkPlan _ = infs
   cbv at hi
   subst hi
   simp (maxSteps := 1000000) only [VL,VM,↓VG,reduceIte,reduceCtorEq,zA,zB,zC,zD,zE,zF,zG,zH,zI,zJ, hx', hy']
   ((repeat refine Ws ?_);refine Wr ?_)
   simp (maxSteps := 1000000) only [VL,VM,↓VG,reduceIte,reduceCtorEq,zA,zB,zC,zD,zE,zF,zG,zH,zI,zJ, k1]
   refine LoopK.mk (i + 1, decide (x = y)) (by simp; omega) ⟨by simp; omega, ?_⟩ ⟨rfl, rfl, rfl, rfl, trivial⟩ rfl
   simp only
   rw [decide_eq_decide, hs]
   exact ⟨fun h => ⟨hl, h⟩, fun h => h.2⟩
  ·have k2 : ((i : Int) < (xs.length : Int)) = False := eq_false (by omega)
   have he : decide (xs = ys) = true := by
    rw [decide_eq_true_eq]
    rw [List.take_of_length_le hge, List.take_of_length_le (by omega)] at ht
    exact ht
   ((repeat refine Ws ?_);refine Wr ?_)
   simp (maxSteps := 1000000) only [VL,VM,↓VG,reduceIte,reduceCtorEq,zA,zB,zC,zD,zE,zF,zG,zH,zI,zJ, k2]
   ((repeat refine Ws ?_);refine Wf (by first|rfl|simp only [EV,zF,reduceIte]) ?_)
   ((repeat refine Ws ?_);refine W_exit ?_)
   simp (maxSteps := 1000000) only [VL,VM,↓VG,reduceIte,reduceCtorEq,zA,zB,zC,zD,zE,zF,zG,zH,zI,zJ]
   ((repeat refine Ws ?_);refine Wr ?_)
   simp (maxSteps := 1000000) only [VL,VM,↓VG,reduceIte,reduceCtorEq,zA,zB,zC,zD,zE,zF,zG,zH,zI,zJ]
   (repeat refine Ws ?_)
   refine W_ret ?_
   try simp only [thenQ, blockQ]
   refine own_ret10 rfl ?_ (by rfl)
   simp only [get_cons, frz, vtup, Nat.reduceEqDiff, if_true, if_false, reduceIte]
   rw [he]
theorem sameCells_v (xs ys : List Pl) (M : Mem) (h1 : xs.length ≤ 1000000) (h2 : ys.length ≤ 1000000) : VC Tryz.prog 45 [plsV xs, plsV ys] M (fun r M' => M' = M ∧ r = vb (decide (xs = ys))) := by
 refine VC_own' T_ok (f := 45) (fn := Tryz.f45) (by kernel_rfl) rfl Tryz.ntmps45 (by rfl) (by rfl) ?_
 ((repeat refine Ws ?_);refine Wr ?_)
 simp (maxSteps := 1000000) only [VL,VM,↓VG,reduceIte,reduceCtorEq,zA,zB,zC,zD,zE,zF,zG,zH,zI,zJ]
 ((repeat refine Ws ?_);refine Wr ?_)
 simp (maxSteps := 1000000) only [VL,VM,↓VG,reduceIte,reduceCtorEq,zA,zB,zC,zD,zE,zF,zG,zH,zI,zJ]
 ((repeat refine Ws ?_);refine Wr ?_)
 simp (maxSteps := 1000000) only [VL,VM,↓VG,reduceIte,reduceCtorEq,zA,zB,zC,zD,zE,zF,zG,zH,zI,zJ]
 ((repeat refine Ws ?_);refine W_block ?_; (repeat refine Ws ?_)); refine W_loopS (fun s : Nat × Bool => [(0, plsV xs), (1, plsV ys), (5, vb s.2), (6, vi s.1)]) (fun _ => M) (fun s => xs.length - s.1) (fun s => s.1 ≤ xs.length ∧ s.2 = decide (xs.length = ys.length ∧ xs.take s.1 = ys.take s.1)) (0, decide ((xs.length : Int) = (ys.length : Int))) ⟨Nat.zero_le _, by simp only [List.take_zero, and_true]; rw [decide_eq_decide]; omega⟩ ⟨rfl, rfl, rfl, rfl, trivial⟩ rfl ?_
 rintro ⟨i, b⟩ ⟨hi, hb⟩
 simp only at hi hb
 have k1 : -9223372036854775808 ≤ (i : Int) + 1 ∧ (i : Int) + 1 < 9223372036854775808 := by omega
 cases b with
 | false =>
  have hne : decide (xs = ys) = false := by
   rw [decide_eq_false_iff_not]
   intro e
   have := of_decide_eq_false hb.symm
   exact this ⟨by rw [e], by rw [e]⟩
  ((repeat refine Ws ?_);refine Wr ?_)
  simp (maxSteps := 1000000) only [VL,VM,↓VG,reduceIte,reduceCtorEq,zA,zB,zC,zD,zE,zF,zG,zH,zI,zJ]
  ((repeat refine Ws ?_);refine Wf (by first|rfl|simp only [EV,zF,reduceIte]) ?_)
  ((repeat refine Ws ?_);refine W_exit ?_)
  simp (maxSteps := 1000000) only [VL,VM,↓VG,reduceIte,reduceCtorEq,zA,zB,zC,zD,zE,zF,zG,zH,zI,zJ]
  ((repeat refine Ws ?_);refine Wr ?_)
  simp (maxSteps := 1000000) only [VL,VM,↓VG,reduceIte,reduceCtorEq,zA,zB,zC,zD,zE,zF,zG,zH,zI,zJ]
  (repeat refine Ws ?_)
  refine W_ret ?_
  try simp only [thenQ, blockQ]
  refine own_ret10 rfl ?_ (by rfl)
  simp only [get_cons, frz, vtup, Nat.reduceEqDiff, if_true, if_false, reduceIte]
  rw [hne]
 | true =>
  obtain ⟨hl, ht⟩ := of_decide_eq_true hb.symm
  rcases Nat.lt_or_ge i xs.length with hlt | hge
  ·have k2 : ((i : Int) < (xs.length : Int)) = True := eq_true (by omega)
   have hx : xs[i]? = some xs[i] := List.getElem?_eq_getElem hlt
   have hy : ys[i]? = some (ys[i]'(by omega)) := List.getElem?_eq_getElem (by omega)
   have hx' := map_at (f := plP) hx
   have hy' := map_at (f := plP) hy
   have hs := take_same hx hy ht
   generalize xs[i] = x at hx hx' hs
   generalize ys[i]'(by omega) = y at hy hy' hs
   ((repeat refine Ws ?_);refine Wr ?_)
   simp (maxSteps := 1000000) only [VL,VM,↓VG,reduceIte,reduceCtorEq,zA,zB,zC,zD,zE,zF,zG,zH,zI,zJ, k2]
   ((repeat refine Ws ?_);refine Wt (by first|rfl|simp only [EV,zF,reduceIte]) ?_)
   ((repeat refine Ws ?_);refine W_skip ?_)
   simp (maxSteps := 1000000) only [VL,VM,↓VG,reduceIte,reduceCtorEq,zA,zB,zC,zD,zE,zF,zG,zH,zI,zJ]
   ((repeat refine Ws ?_);refine W_block ?_)
   (repeat refine Ws ?_)
   refine W_drawP T_ok [] (by kernel_rfl) (by kernel_rfl) ?_
   generalize hi : mkPlan _ = infs
   cbv at hi
   subst hi
   simp (maxSteps := 1000000) only [VL,VM,↓VG,reduceIte,reduceCtorEq,zA,zB,zC,zD,zE,zF,zG,zH,zI,zJ, hx', hy']
   ((repeat refine Ws ?_);refine Wr ?_)
   simp (maxSteps := 1000000) only [VL,VM,↓VG,reduceIte,reduceCtorEq,zA,zB,zC,zD,zE,zF,zG,zH,zI,zJ, k1]
   refine LoopK.mk (i + 1, decide (x = y)) (by simp; omega) ⟨by simp; omega, ?_⟩ ⟨rfl, rfl, rfl, rfl, trivial⟩ rfl
   simp only
   rw [decide_eq_decide, hs]
   exact ⟨fun h => ⟨hl, h⟩, fun h => h.2⟩
  ·have k2 : ((i : Int) < (xs.length : Int)) = False := eq_false (by omega)
   have he : decide (xs = ys) = true := by
    rw [decide_eq_true_eq]
    rw [List.take_of_length_le hge, List.take_of_length_le (by omega)] at ht
    exact ht
   ((repeat refine Ws ?_);refine Wr ?_)
   simp (maxSteps := 1000000) only [VL,VM,↓VG,reduceIte,reduceCtorEq,zA,zB,zC,zD,zE,zF,zG,zH,zI,zJ, k2]
   ((repeat refine Ws ?_);refine Wf (by first|rfl|simp only [EV,zF,reduceIte]) ?_)
   ((repeat refine Ws ?_);refine W_exit ?_)
   simp (maxSteps := 1000000) only [VL,VM,↓VG,reduceIte,reduceCtorEq,zA,zB,zC,zD,zE,zF,zG,zH,zI,zJ]
   ((repeat refine Ws ?_);refine Wr ?_)
   simp (maxSteps := 1000000) only [VL,VM,↓VG,reduceIte,reduceCtorEq,zA,zB,zC,zD,zE,zF,zG,zH,zI,zJ]
   (repeat refine Ws ?_)
   refine W_ret ?_
   try simp only [thenQ, blockQ]
   refine own_ret10 rfl ?_ (by rfl)
   simp only [get_cons, frz, vtup, Nat.reduceEqDiff, if_true, if_false, reduceIte]
   rw [he]
end Go.Proofs.YtominlgikchnmaaGreatDoor.Vm

/- What bays carry, on values. (Vm) -/
namespace Go.Proofs.YtominlgikchnmaaGreatDoor.Vm
open Go Go.Proofs
end Go.Proofs.YtominlgikchnmaaGreatDoor.Vm

/- Layouts made of numbers, on values. (Vm) -/
namespace Go.Proofs.YtominlgikchnmaaGreatDoor.Vm
open Go Go.Proofs
theorem VC_keep {P : Program} {T : Tab} (hT : TabOk P T) {f : Nat} {fn : Func} {c : Code} {nt : Nat} {args : List VV} {M : Mem} {Q : VV → Mem → Prop} (hf : T.fn f = some fn) (hb : fn.body = some c) (hnt : fn.ntmps = nt) (hn : Nat.ble args.length nt = true) (hk : T.keeps f = true)
  (h : WCode P ⟨f, none, nt⟩ c (zipEnv 0 args) M [] (fun ex e M' D => (ex = .normal ∨ ex = .ret) ∧ D = [] ∧ ∃ vs, vresL T e M' fn.results.toList = some vs ∧ Q (vtup vs) M')) : VC P f args M Q := by
 subst hnt
 refine VC_fn hT hf hb (Nat.le_of_ble_eq_true hn) fun hlg => h.mono ?_
 rintro ex e M' D ⟨hex, rfl, vs, h1, h3⟩
 have key : retQ T f M.H.length fn Q .ret e M' [] := by
  simp only [retQ, vkill]
  have hM : ({ M' with H := M'.H } : Mem) = M' := rfl
  rw [hM, h1]
  simp only
  unfold vfinish
  rw [hk]
  exact h3
 rcases hex with rfl | rfl
 ·exact key
 ·exact key
end Go.Proofs.YtominlgikchnmaaGreatDoor.Vm
