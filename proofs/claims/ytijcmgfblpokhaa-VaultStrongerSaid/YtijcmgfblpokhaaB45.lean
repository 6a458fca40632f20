/- A part of the proofs about the chapter of the vaults; it states no condition of its own. -/
import Derived.Test.YtijcmgfblpokhaaB44
set_option linter.unusedVariables false
set_option linter.unusedSimpArgs false
/- Dice made of numbers, places, loads, on values. (Vm) -/
namespace Go.Proofs.Ytijcmgfblpokhaa.Vm
open Go Go.Proofs
/-- a function whose result leads to an object of its own -/
theorem VC_esc {P : Program} {T : Tab} (hT : TabOk P T) {f : Nat} {fn : Func} {c : Code} {nt : Nat} {args : List VV} {M : Mem} {Q : VV → Mem → Prop} (hf : T.fn f = some fn) (hb : fn.body = some c) (hnt : fn.ntmps = nt) (hn : Nat.ble args.length nt = true) (hk : T.keeps f = false)
    (h : WCode P ⟨f, none, nt⟩ c (zipEnv 0 args) M [] (fun ex e M' D => (ex = .normal ∨ ex = .ret) ∧ D = [] ∧ ∃ vs, vresL T e M' fn.results.toList = some vs ∧ (∃ x ∈ refs (frz M.H.length M'.H (vtup vs)), M.H.length ≤ x) ∧ Q (vtup vs) M')) : VC P f args M Q := by
  subst hnt
  refine VC_fn hT hf hb (Nat.le_of_ble_eq_true hn) fun hlg => h.mono ?_
  rintro ex e M' D ⟨hex, rfl, vs, h1, ⟨x, hx, hx2⟩, h3⟩
  have key : retQ T f M.H.length fn Q .ret e M' [] := by
    simp only [retQ, vkill]
    have hM : ({ M' with H := M'.H } : Mem) = M' := rfl
    rw [hM, h1]
    simp only
    have q3 : ((refs (frz M.H.length M'.H (vtup vs))).all (Nat.blt · M.H.length)) = false := by
      rw [List.all_eq_false]
      exact ⟨x, hx, by rw [Nat.blt_eq]; omega⟩
    unfold vfinish
    rw [hk, q3, Bool.and_false]
    exact h3
  rcases hex with rfl | rfl
  · exact key
  · exact key
def dieU : List Int → Int := List.foldl (fun u x => nextU (wrU (xorU u (wrU x) * 11507291218515648293))) 2611923443488327891
theorem dieU_take {xs : List Int} {i : Nat} {x : Int} (h : xs[i]? = some x) : dieU (xs.take (i + 1)) = nextU (wrU (xorU (dieU (xs.take i)) (wrU x) * 11507291218515648293)) := by
  rw [List.take_add_one, h]
  simp [dieU, Option.toList]
theorem dieOf_v (xs : List Int) (M : Mem) (hl : xs.length ≤ maxLen) : VC Try.prog 17 [intsV xs] M (fun r M' => M' = ⟨DH (M.H ++ [.dead]) M.H.length (dieU xs) [], M.lg⟩ ∧ r = .ptr M.H.length 0) := by
  have hmx : maxLen < 9223372036854775808 := by decide
  have hd : M.H.length < (M.H ++ [VObj.dead]).length := by simp
  refine VC_esc T_ok (f := 17) (fn := Try.f17) (by kernel_rfl) rfl Try.ntmps17 (by rfl) (by rfl) ?_
  ((repeat refine W_seq ?_); refine W_region0 T_ok ?_)
  simp (maxSteps := 1000000) only [VL, VM, ↓Gd_none, ↓Gd_t, ↓Gd_f, reduceIte, reduceCtorEq, Int.reduceLE, Int.reduceLT, Int.reduceToNat, Int.reduceNeg, Nat.reduceLT, Nat.reduceEqDiff, Nat.reduceAdd, Nat.reduceSub, Nat.reduceMul, Nat.reduceLeDiff]
  ((repeat refine W_seq ?_); refine W_region0 T_ok ?_)
  simp (maxSteps := 1000000) only [VL, VM, ↓Gd_none, ↓Gd_t, ↓Gd_f, reduceIte, reduceCtorEq, Int.reduceLE, Int.reduceLT, Int.reduceToNat, Int.reduceNeg, Nat.reduceLT, Nat.reduceEqDiff, Nat.reduceAdd, Nat.reduceSub, Nat.reduceMul, Nat.reduceLeDiff]
  rw [show M.H ++ [VObj.obj [uv 2611923443488327891]] = DH (M.H ++ [VObj.dead]) M.H.length (dieU []) [] by simp [DH, dieU]]
  ((repeat refine W_seq ?_); refine W_region0 T_ok ?_)
  simp (maxSteps := 1000000) only [VL, VM, ↓Gd_none, ↓Gd_t, ↓Gd_f, reduceIte, reduceCtorEq, Int.reduceLE, Int.reduceLT, Int.reduceToNat, Int.reduceNeg, Nat.reduceLT, Nat.reduceEqDiff, Nat.reduceAdd, Nat.reduceSub, Nat.reduceMul, Nat.reduceLeDiff]
  ((repeat refine W_seq ?_); refine W_block ?_; (repeat refine W_seq ?_)); refine W_loopS (fun i : Nat => [(0, intsV xs), (3, .ptr M.H.length 0), (4, vi i)]) (fun i => ⟨DH (M.H ++ [VObj.dead]) M.H.length (dieU (xs.take i)) [], M.lg⟩) (fun i => xs.length - i) (fun i => i ≤ xs.length) 0 (Nat.zero_le _) ⟨rfl, rfl, rfl, trivial⟩ rfl ?_
  rintro i hi
  ((repeat refine W_seq ?_); refine W_region0 T_ok ?_)
  rcases Nat.lt_or_ge i xs.length with hlt | hge
  · have k1 : -9223372036854775808 ≤ (i : Int) + 1 ∧ (i : Int) + 1 < 9223372036854775808 := by omega
    have k2 : ((i : Int) < (xs.length : Int)) = True := eq_true (by omega)
    have hx : xs[i]? = some xs[i] := List.getElem?_eq_getElem hlt
    have hx' := map_at (f := intP) hx
    generalize hc : xs[i] = x at hx hx'
    simp (maxSteps := 1000000) only [VL, VM, ↓Gd_none, ↓Gd_t, ↓Gd_f, reduceIte, reduceCtorEq, Int.reduceLE, Int.reduceLT, Int.reduceToNat, Int.reduceNeg, Nat.reduceLT, Nat.reduceEqDiff, Nat.reduceAdd, Nat.reduceSub, Nat.reduceMul, Nat.reduceLeDiff, k2]
    ((repeat refine W_seq ?_); refine W_cond (b := true) (by first | rfl | simp only [ev, get_cons, Nat.reduceEqDiff, if_true, if_false, reduceIte]) (fun _ => ?_) (fun h => by cases h))
    ((repeat refine W_seq ?_); refine W_skip ?_)
    simp (maxSteps := 1000000) only [VL, VM, ↓Gd_none, ↓Gd_t, ↓Gd_f, reduceIte, reduceCtorEq, Int.reduceLE, Int.reduceLT, Int.reduceToNat, Int.reduceNeg, Nat.reduceLT, Nat.reduceEqDiff, Nat.reduceAdd, Nat.reduceSub, Nat.reduceMul, Nat.reduceLeDiff]
    ((repeat refine W_seq ?_); refine W_block ?_)
    (repeat refine W_seq ?_)
    refine W_drawP T_ok [] (by kernel_rfl) (by kernel_rfl) ?_
    generalize hi : mkPlan _ = infs
    cbv at hi
    subst hi
    simp (maxSteps := 1000000) only [VL, VM, ↓Gd_none, ↓Gd_t, ↓Gd_f, reduceIte, reduceCtorEq, Int.reduceLE, Int.reduceLT, Int.reduceToNat, Int.reduceNeg, Nat.reduceLT, Nat.reduceEqDiff, Nat.reduceAdd, Nat.reduceSub, Nat.reduceMul, Nat.reduceLeDiff, DH_die hd, DH_setd, hx', c_iu, u_xor, u_mul]
    ((repeat refine W_seq ?_); refine W_region0 T_ok ?_)
    simp (maxSteps := 1000000) only [VL, VM, ↓Gd_none, ↓Gd_t, ↓Gd_f, reduceIte, reduceCtorEq, Int.reduceLE, Int.reduceLT, Int.reduceToNat, Int.reduceNeg, Nat.reduceLT, Nat.reduceEqDiff, Nat.reduceAdd, Nat.reduceSub, Nat.reduceMul, Nat.reduceLeDiff]
    apply call_eq (f := 61) (fn := Try.f61) (by kernel_rfl) (by rfl)
    · exact roll_v hd (wrU (xorU (dieU (xs.take i)) (wrU x) * 11507291218515648293)) M.lg
    simp (maxSteps := 1000000) only [VL, VM, ↓Gd_none, ↓Gd_t, ↓Gd_f, reduceIte, reduceCtorEq, Int.reduceLE, Int.reduceLT, Int.reduceToNat, Int.reduceNeg, Nat.reduceLT, Nat.reduceEqDiff, Nat.reduceAdd, Nat.reduceSub, Nat.reduceMul, Nat.reduceLeDiff]
    ((repeat refine W_seq ?_); refine W_region0 T_ok ?_)
    simp (maxSteps := 1000000) only [VL, VM, ↓Gd_none, ↓Gd_t, ↓Gd_f, reduceIte, reduceCtorEq, Int.reduceLE, Int.reduceLT, Int.reduceToNat, Int.reduceNeg, Nat.reduceLT, Nat.reduceEqDiff, Nat.reduceAdd, Nat.reduceSub, Nat.reduceMul, Nat.reduceLeDiff, k1]
    refine LoopK.mk (i + 1) (by omega) (by omega) ⟨rfl, rfl, rfl, trivial⟩ ?_
    simp only [dieU_take hx]
  · have k2 : ((i : Int) < (xs.length : Int)) = False := eq_false (by omega)
    obtain rfl : i = xs.length := by omega
    rw [List.take_length]
    simp (maxSteps := 1000000) only [VL, VM, ↓Gd_none, ↓Gd_t, ↓Gd_f, reduceIte, reduceCtorEq, Int.reduceLE, Int.reduceLT, Int.reduceToNat, Int.reduceNeg, Nat.reduceLT, Nat.reduceEqDiff, Nat.reduceAdd, Nat.reduceSub, Nat.reduceMul, Nat.reduceLeDiff, k2]
    ((repeat refine W_seq ?_); refine W_cond (b := false) (by first | rfl | simp only [ev, get_cons, Nat.reduceEqDiff, if_true, if_false, reduceIte]) (fun h => by cases h) (fun _ => ?_))
    ((repeat refine W_seq ?_); refine W_exit ?_)
    simp (maxSteps := 1000000) only [VL, VM, ↓Gd_none, ↓Gd_t, ↓Gd_f, reduceIte, reduceCtorEq, Int.reduceLE, Int.reduceLT, Int.reduceToNat, Int.reduceNeg, Nat.reduceLT, Nat.reduceEqDiff, Nat.reduceAdd, Nat.reduceSub, Nat.reduceMul, Nat.reduceLeDiff]
    ((repeat refine W_seq ?_); refine W_region0 T_ok ?_)
    simp (maxSteps := 1000000) only [VL, VM, ↓Gd_none, ↓Gd_t, ↓Gd_f, reduceIte, reduceCtorEq, Int.reduceLE, Int.reduceLT, Int.reduceToNat, Int.reduceNeg, Nat.reduceLT, Nat.reduceEqDiff, Nat.reduceAdd, Nat.reduceSub, Nat.reduceMul, Nat.reduceLeDiff]
    (repeat refine W_seq ?_)
    refine W_ret ⟨.inr rfl, rfl, [.ptr M.H.length 0], rfl, ⟨M.H.length, by simp [vtup, frz, refs], Nat.le_refl _⟩, rfl, rfl⟩
theorem places_v (h : Ha) (wd dp : Nat) (M : Mem) (hwd : h.wide = wd) (hdp : h.deep = dp) (h6 : wd ≤ 1000) (h4 : dp ≤ 1000) : VC Try.prog 59 [hallV h] M (fun r M' => M' = M ∧ r = plsV (rowsOf dp wd)) := by
  refine VC_own' T_ok (f := 59) (fn := Try.f59) (by kernel_rfl) rfl Try.ntmps59 (by rfl) (by rfl) ?_
  ((repeat refine W_seq ?_); refine W_region0 T_ok ?_)
  simp (maxSteps := 1000000) only [VL, VM, ↓Gd_none, ↓Gd_t, ↓Gd_f, reduceIte, reduceCtorEq, Int.reduceLE, Int.reduceLT, Int.reduceToNat, Int.reduceNeg, Nat.reduceLT, Nat.reduceEqDiff, Nat.reduceAdd, Nat.reduceSub, Nat.reduceMul, Nat.reduceLeDiff]
  ((repeat refine W_seq ?_); refine W_region0 T_ok ?_)
  simp (maxSteps := 1000000) only [VL, VM, ↓Gd_none, ↓Gd_t, ↓Gd_f, reduceIte, reduceCtorEq, Int.reduceLE, Int.reduceLT, Int.reduceToNat, Int.reduceNeg, Nat.reduceLT, Nat.reduceEqDiff, Nat.reduceAdd, Nat.reduceSub, Nat.reduceMul, Nat.reduceLeDiff]
  refine W_tok (t := 3) (k := 2) rfl ?_
  ((repeat refine W_seq ?_); refine W_region0 T_ok ?_)
  simp (maxSteps := 1000000) only [VL, VM, ↓Gd_none, ↓Gd_t, ↓Gd_f, reduceIte, reduceCtorEq, Int.reduceLE, Int.reduceLT, Int.reduceToNat, Int.reduceNeg, Nat.reduceLT, Nat.reduceEqDiff, Nat.reduceAdd, Nat.reduceSub, Nat.reduceMul, Nat.reduceLeDiff]
  ((repeat refine W_seq ?_); refine W_block ?_; (repeat refine W_seq ?_)); refine W_loopS (fun y : Nat => [(0, hallV h), (1, .ptr M.H.length 0), (3, .so (M.H.length + 1) 2 ((rowsOf y wd).map plP)), (4, vi y)]) (fun y => ⟨M.H ++ [VObj.obj (hallC h), VObj.clm (rowsOf y wd).length 2], M.lg⟩) (fun y => dp - y) (fun y => y ≤ dp) 0 (Nat.zero_le _) ⟨rfl, rfl, rfl, rfl, trivial⟩ rfl ?_
  rintro y hy
  have k1 : -9223372036854775808 ≤ (y : Int) + 1 ∧ (y : Int) + 1 < 9223372036854775808 := by omega
  ((repeat refine W_seq ?_); refine W_region0 T_ok ?_)
  rcases Nat.lt_or_ge y dp with hlt | hge
  · have k2 : ((y : Int) < h.deep) = True := eq_true (by omega)
    simp (maxSteps := 1000000) only [VL, VM, ↓Gd_none, ↓Gd_t, ↓Gd_f, reduceIte, reduceCtorEq, Int.reduceLE, Int.reduceLT, Int.reduceToNat, Int.reduceNeg, Nat.reduceLT, Nat.reduceEqDiff, Nat.reduceAdd, Nat.reduceSub, Nat.reduceMul, Nat.reduceLeDiff, k2]
    ((repeat refine W_seq ?_); refine W_cond (b := true) (by first | rfl | simp only [ev, get_cons, Nat.reduceEqDiff, if_true, if_false, reduceIte]) (fun _ => ?_) (fun h => by cases h))
    ((repeat refine W_seq ?_); refine W_skip ?_)
    simp (maxSteps := 1000000) only [VL, VM, ↓Gd_none, ↓Gd_t, ↓Gd_f, reduceIte, reduceCtorEq, Int.reduceLE, Int.reduceLT, Int.reduceToNat, Int.reduceNeg, Nat.reduceLT, Nat.reduceEqDiff, Nat.reduceAdd, Nat.reduceSub, Nat.reduceMul, Nat.reduceLeDiff]
    ((repeat refine W_seq ?_); refine W_block ?_)
    ((repeat refine W_seq ?_); refine W_region0 T_ok ?_)
    simp (maxSteps := 1000000) only [VL, VM, ↓Gd_none, ↓Gd_t, ↓Gd_f, reduceIte, reduceCtorEq, Int.reduceLE, Int.reduceLT, Int.reduceToNat, Int.reduceNeg, Nat.reduceLT, Nat.reduceEqDiff, Nat.reduceAdd, Nat.reduceSub, Nat.reduceMul, Nat.reduceLeDiff]
    ((repeat refine W_seq ?_); refine W_block ?_; (repeat refine W_seq ?_)); refine W_loopS (fun x : Nat => [(0, hallV h), (1, .ptr M.H.length 0), (3, .so (M.H.length + 1) 2 ((rowsOf y wd ++ rowOf y x).map plP)), (4, vi y), (5, vi x)]) (fun x => ⟨M.H ++ [VObj.obj (hallC h), VObj.clm (rowsOf y wd ++ rowOf y x).length 2], M.lg⟩) (fun x => wd - x) (fun x => x ≤ wd) 0 (Nat.zero_le _) ⟨rfl, rfl, by simp [rowOf, get_cons], rfl, rfl, trivial⟩ (by simp [rowOf]) ?_
    rintro x hx
    have j1 : -9223372036854775808 ≤ (x : Int) + 1 ∧ (x : Int) + 1 < 9223372036854775808 := by omega
    ((repeat refine W_seq ?_); refine W_region0 T_ok ?_)
    rcases Nat.lt_or_ge x wd with hlt' | hge'
    · have j2 : ((x : Int) < h.wide) = True := eq_true (by omega)
      have hl : (rowsOf y wd ++ rowOf y x).length ≤ 2000000 := by
        rw [List.length_append, rowsOf_len]
        have : y * wd ≤ 1000 * 1000 := Nat.mul_le_mul (by omega) h6
        simp [rowOf]; omega
      have hs := rowOf_succ y x
      generalize hL : rowsOf y wd ++ rowOf y x = l at hl
      have q1 : ((l.length + 1) * 16 ≤ 140737488355328) = True := eq_true (by omega)
      simp (maxSteps := 1000000) only [VL, VM, ↓Gd_none, ↓Gd_t, ↓Gd_f, reduceIte, reduceCtorEq, Int.reduceLE, Int.reduceLT, Int.reduceToNat, Int.reduceNeg, Nat.reduceLT, Nat.reduceEqDiff, Nat.reduceAdd, Nat.reduceSub, Nat.reduceMul, Nat.reduceLeDiff, j2]
      ((repeat refine W_seq ?_); refine W_cond (b := true) (by first | rfl | simp only [ev, get_cons, Nat.reduceEqDiff, if_true, if_false, reduceIte]) (fun _ => ?_) (fun h => by cases h))
      ((repeat refine W_seq ?_); refine W_skip ?_)
      simp (maxSteps := 1000000) only [VL, VM, ↓Gd_none, ↓Gd_t, ↓Gd_f, reduceIte, reduceCtorEq, Int.reduceLE, Int.reduceLT, Int.reduceToNat, Int.reduceNeg, Nat.reduceLT, Nat.reduceEqDiff, Nat.reduceAdd, Nat.reduceSub, Nat.reduceMul, Nat.reduceLeDiff]
      ((repeat refine W_seq ?_); refine W_block ?_)
      ((repeat refine W_seq ?_); refine W_region0 T_ok ?_)
      simp (maxSteps := 1000000) only [VL, VM, ↓Gd_none, ↓Gd_t, ↓Gd_f, reduceIte, reduceCtorEq, Int.reduceLE, Int.reduceLT, Int.reduceToNat, Int.reduceNeg, Nat.reduceLT, Nat.reduceEqDiff, Nat.reduceAdd, Nat.reduceSub, Nat.reduceMul, Nat.reduceLeDiff, vappend, q1]
      ((repeat refine W_seq ?_); refine W_region0 T_ok ?_)
      simp (maxSteps := 1000000) only [VL, VM, ↓Gd_none, ↓Gd_t, ↓Gd_f, reduceIte, reduceCtorEq, Int.reduceLE, Int.reduceLT, Int.reduceToNat, Int.reduceNeg, Nat.reduceLT, Nat.reduceEqDiff, Nat.reduceAdd, Nat.reduceSub, Nat.reduceMul, Nat.reduceLeDiff, j1]
      refine LoopK.mk (x + 1) (by omega) (by omega) ⟨rfl, rfl, ?_, rfl, rfl, trivial⟩ ?_
      · rw [hs, ← List.append_assoc, hL]
        simp [get_cons]
      · subst hL
        simp only [hs, List.length_append, List.length_cons, List.length_nil, Nat.zero_add, Nat.add_assoc]
    · have j2 : ((x : Int) < h.wide) = False := eq_false (by omega)
      obtain rfl : x = wd := by omega
      simp (maxSteps := 1000000) only [VL, VM, ↓Gd_none, ↓Gd_t, ↓Gd_f, reduceIte, reduceCtorEq, Int.reduceLE, Int.reduceLT, Int.reduceToNat, Int.reduceNeg, Nat.reduceLT, Nat.reduceEqDiff, Nat.reduceAdd, Nat.reduceSub, Nat.reduceMul, Nat.reduceLeDiff, j2]
      ((repeat refine W_seq ?_); refine W_cond (b := false) (by first | rfl | simp only [ev, get_cons, Nat.reduceEqDiff, if_true, if_false, reduceIte]) (fun h => by cases h) (fun _ => ?_))
      ((repeat refine W_seq ?_); refine W_exit ?_)
      simp (maxSteps := 1000000) only [VL, VM, ↓Gd_none, ↓Gd_t, ↓Gd_f, reduceIte, reduceCtorEq, Int.reduceLE, Int.reduceLT, Int.reduceToNat, Int.reduceNeg, Nat.reduceLT, Nat.reduceEqDiff, Nat.reduceAdd, Nat.reduceSub, Nat.reduceMul, Nat.reduceLeDiff]
      ((repeat refine W_seq ?_); refine W_region0 T_ok ?_)
      simp (maxSteps := 1000000) only [VL, VM, ↓Gd_none, ↓Gd_t, ↓Gd_f, reduceIte, reduceCtorEq, Int.reduceLE, Int.reduceLT, Int.reduceToNat, Int.reduceNeg, Nat.reduceLT, Nat.reduceEqDiff, Nat.reduceAdd, Nat.reduceSub, Nat.reduceMul, Nat.reduceLeDiff, k1]
      refine LoopK.mk (y + 1) (by omega) (by omega) ⟨rfl, rfl, ?_, rfl, trivial⟩ ?_
      · rw [rowsOf_succ]; rfl
      · simp only [rowsOf_succ, List.length_append]
  · have k2 : ((y : Int) < h.deep) = False := eq_false (by omega)
    obtain rfl : y = dp := by omega
    simp (maxSteps := 1000000) only [VL, VM, ↓Gd_none, ↓Gd_t, ↓Gd_f, reduceIte, reduceCtorEq, Int.reduceLE, Int.reduceLT, Int.reduceToNat, Int.reduceNeg, Nat.reduceLT, Nat.reduceEqDiff, Nat.reduceAdd, Nat.reduceSub, Nat.reduceMul, Nat.reduceLeDiff, k2]
    ((repeat refine W_seq ?_); refine W_cond (b := false) (by first | rfl | simp only [ev, get_cons, Nat.reduceEqDiff, if_true, if_false, reduceIte]) (fun h => by cases h) (fun _ => ?_))
    ((repeat refine W_seq ?_); refine W_exit ?_)
    simp (maxSteps := 1000000) only [VL, VM, ↓Gd_none, ↓Gd_t, ↓Gd_f, reduceIte, reduceCtorEq, Int.reduceLE, Int.reduceLT, Int.reduceToNat, Int.reduceNeg, Nat.reduceLT, Nat.reduceEqDiff, Nat.reduceAdd, Nat.reduceSub, Nat.reduceMul, Nat.reduceLeDiff]
    ((repeat refine W_seq ?_); refine W_region0 T_ok ?_)
    simp (maxSteps := 1000000) only [VL, VM, ↓Gd_none, ↓Gd_t, ↓Gd_f, reduceIte, reduceCtorEq, Int.reduceLE, Int.reduceLT, Int.reduceToNat, Int.reduceNeg, Nat.reduceLT, Nat.reduceEqDiff, Nat.reduceAdd, Nat.reduceSub, Nat.reduceMul, Nat.reduceLeDiff]
    (repeat refine W_seq ?_)
    refine W_ret ?_
    try simp only [thenQ, blockQ]
    refine own_ret1 rfl ?_ (by rfl)
    simp only [get_cons, frz, vtup, Nat.reduceEqDiff, if_true, if_false, reduceIte]
end Go.Proofs.Ytijcmgfblpokhaa.Vm

/- What bays carry, on values. (Vm) -/
namespace Go.Proofs.Ytijcmgfblpokhaa.Vm
open Go Go.Proofs
theorem spanc_v (lo hi : Int) (M : Mem) : VC Try.prog 30 [vi lo, vi hi] M (fun r M' => M' = M ∧ r = spV ⟨lo, hi⟩) := by
  refine VC_own' T_ok (f := 30) (fn := Try.f30) (by kernel_rfl) rfl Try.ntmps30 (by rfl) (by rfl) ?_
  ((repeat refine W_seq ?_); refine W_region0 T_ok ?_)
  simp (maxSteps := 1000000) only [VL, VM, ↓Gd_none, ↓Gd_t, ↓Gd_f, reduceIte, reduceCtorEq, Int.reduceLE, Int.reduceLT, Int.reduceToNat, Int.reduceNeg, Nat.reduceLT, Nat.reduceEqDiff, Nat.reduceAdd, Nat.reduceSub, Nat.reduceMul, Nat.reduceLeDiff]
  ((repeat refine W_seq ?_); refine W_region0 T_ok ?_)
  simp (maxSteps := 1000000) only [VL, VM, ↓Gd_none, ↓Gd_t, ↓Gd_f, reduceIte, reduceCtorEq, Int.reduceLE, Int.reduceLT, Int.reduceToNat, Int.reduceNeg, Nat.reduceLT, Nat.reduceEqDiff, Nat.reduceAdd, Nat.reduceSub, Nat.reduceMul, Nat.reduceLeDiff]
  (repeat refine W_seq ?_)
  refine W_ret ?_
  try simp only [thenQ, blockQ]
  refine own_ret (vs := [spV ⟨lo, hi⟩]) (by simp [Try.f30, vresL, vload, t_span, get_cons, hget0, nat_ble, strip1]) rfl rfl ⟨rfl, rfl⟩
end Go.Proofs.Ytijcmgfblpokhaa.Vm

/- Layouts made of numbers, on values. (Vm) -/
namespace Go.Proofs.Ytijcmgfblpokhaa.Vm
open Go Go.Proofs
/-- a function that keeps its arguments' and results' tokens -/
theorem VC_keep {P : Program} {T : Tab} (hT : TabOk P T) {f : Nat} {fn : Func} {c : Code} {nt : Nat} {args : List VV} {M : Mem} {Q : VV → Mem → Prop} (hf : T.fn f = some fn) (hb : fn.body = some c) (hnt : fn.ntmps = nt) (hn : Nat.ble args.length nt = true) (hk : T.keeps f = true)
    (h : WCode P ⟨f, none, nt⟩ c (zipEnv 0 args) M [] (fun ex e M' D => (ex = .normal ∨ ex = .ret) ∧ D = [] ∧ ∃ vs, vresL T e M' fn.results.toList = some vs ∧ Q (vtup vs) M')) : VC P f args M Q := by
  subst hnt
  refine VC_fn hT hf hb (Nat.le_of_ble_eq_true hn) fun hlg => h.mono ?_
  rintro ex e M' D ⟨hex, rfl, vs, h1, h3⟩
  have key : retQ T f M.H.length fn Q .ret e M' [] := by
    simp only [retQ, vkill]
    have hM : ({ M' with H := M'.H } : Mem) = M' := rfl
    rw [hM, h1]
    simp only
    unfold vfinish
    rw [hk]
    exact h3
  rcases hex with rfl | rfl
  · exact key
  · exact key
theorem callk_eq {f : Nat} {fn : Func} {args : List VV} {M M1 : Mem} {v : VV} (hf : T.fn f = some fn) (hk : T.keeps f = true) (h : VC Try.prog f args M (fun r M' => M' = M1 ∧ r = v)) {Q : VV → Mem → Prop} (hq : Q v M1) : VCall Try.prog (.fn (.func f) [] []) args M Q :=
  (VCall_fn T_ok hf (by
    have : (sarg T f) = id := funext fun v => by simp [sarg, hk]
    simpa [this] using h)).mono fun r M' e => by obtain ⟨rfl, rfl⟩ := e; exact hq
theorem callk_d {f : Nat} {fn : Func} {args : List VV} {M M1 : Mem} {v : VV} (hf : T.fn f = some fn) (hk : T.keeps f = true) (h : VC Try.prog f args M (fun r M' => M' = M1 ∧ r = v)) {R : VV → Mem → Prop} (hq : R v M1) : DCallK Try.prog (.fn (.func f) [] []) args M R :=
  ⟨v, M1, callk_eq hf hk h ⟨rfl, rfl⟩, hq⟩
end Go.Proofs.Ytijcmgfblpokhaa.Vm

/- Halls made of numbers, in plain Lean, and how they end. (Vm) -/
namespace Go.Proofs.Ytijcmgfblpokhaa.Vm
open Go Go.Proofs
theorem addLg_has {id r : Nat} {lg : List (Nat × Nat)} (h : (id, r) ∈ lg) : addLg id [r] lg = lg := by
  unfold addLg
  have h1 : (lg.any fun e => Nat.beq e.1 id && Nat.beq e.2 r) = true := List.any_eq_true.2 ⟨(id, r), h, by simp⟩
  have h2 : List.filter (fun r => Nat.blt id r && !(lg.any fun e => Nat.beq e.1 id && Nat.beq e.2 r)) [r] = [] := by
    rw [List.filter_cons]
    simp [h1]
  rw [h2]
theorem rowOf_mem {c : Pl} {y n : Nat} : c ∈ rowOf y n ↔ c.y = (y : Int) ∧ 0 ≤ c.x ∧ c.x < n := by
  unfold rowOf
  rw [List.mem_map]
  constructor
  · rintro ⟨x, hx, rfl⟩
    have := List.mem_range.1 hx
    exact ⟨rfl, Int.natCast_nonneg _, Int.ofNat_lt.2 this⟩
  · rintro ⟨h1, h2, h3⟩
    refine ⟨c.x.toNat, List.mem_range.2 (by omega), ?_⟩
    cases c
    simp only at h1 h2 h3 ⊢
    rw [h1]
    congr 1
    omega
theorem rowsOf_mem {c : Pl} {n wd : Nat} : c ∈ rowsOf n wd ↔ 0 ≤ c.y ∧ c.y < n ∧ 0 ≤ c.x ∧ c.x < wd := by
  unfold rowsOf
  rw [List.mem_flatMap]
  constructor
  · rintro ⟨y, hy, hc⟩
    rw [rowOf_mem] at hc
    have := List.mem_range.1 hy
    omega
  · rintro ⟨h1, h2, h3, h4⟩
    exact ⟨c.y.toNat, List.mem_range.2 (by omega), rowOf_mem.2 (by omega)⟩
theorem rowOf_nodup (y n : Nat) : (rowOf y n).Nodup := by
  unfold rowOf
  rw [List.nodup_iff_pairwise_ne, List.pairwise_map]
  exact List.nodup_range.imp fun h e => h (by have := congrArg Pl.x e; simp only at this; omega)
theorem rowsOf_nodup (n wd : Nat) : (rowsOf n wd).Nodup := by
  induction n with
  | zero => simp [rowsOf]
  | succ n ih =>
    rw [rowsOf_succ, List.nodup_append]
    refine ⟨ih, rowOf_nodup n wd, fun a ha b hb e => ?_⟩
    subst e
    rw [rowsOf_mem] at ha
    rw [rowOf_mem] at hb
    omega
theorem nodup_has {l : List Pl} (h : l.Nodup) {i : Nat} {c : Pl} (hx : l[i]? = some c) : hasPl (l.take i) c = false := by
  unfold hasPl
  rw [← Bool.not_eq_true, List.contains_iff_mem]
  intro hm
  obtain ⟨j, hj, e⟩ := List.getElem_of_mem hm
  rw [List.length_take] at hj
  rw [List.getElem_take] at e
  have hi := (List.getElem?_eq_some_iff.1 hx)
  obtain ⟨hil, he⟩ := hi
  have := List.pairwise_iff_getElem.1 (List.nodup_iff_pairwise_ne.1 h) j i (by omega) hil (by omega)
  rw [e, he] at this
  exact this rfl
theorem cells_sub {h : Ha} {l : List Pl} {wd dp : Nat} (hs : l.Sublist (rowsOf dp wd)) (hw : h.wide = wd) (hd : h.deep = dp) (hn : dp * wd ≤ 24) : cellsErr h l = 0 := by
  have hlen := hs.length_le
  rw [rowsOf_len] at hlen
  unfold cellsErr
  rw [if_neg (by omega), firstErr_zero]
  intro i hi
  have hx : l[i]? = some l[i] := List.getElem?_eq_getElem hi
  have hm := rowsOf_mem.1 (hs.subset (List.getElem_mem hi))
  generalize l[i] = c at hx hm
  have h1 : isPl h c = true := by
    simp only [isPl, Bool.and_eq_true, inR_true]
    omega
  have h2 := nodup_has (hs.nodup (rowsOf_nodup dp wd)) hx
  unfold cellErr
  rw [hx]
  simp [h1, h2]
/-- a kind made of numbers, in a hall of n kinds -/
structure KGood (n : Nat) (k : Ki) : Prop where
  lo : 0 ≤ k.lo
  le : k.lo ≤ k.hi
  hi : k.hi ≤ 60
  len : k.away.length = n
  aw : ∀ a ∈ k.away, 0 ≤ a ∧ a ≤ 3
  rent : 0 ≤ k.rent ∧ k.rent ≤ 49
  most : 1 ≤ k.most ∧ k.most ≤ 5
structure HGood (wd dp : Nat) (h : Ha) : Prop where
  w : h.wide = wd
  d : h.deep = dp
  w1 : 1 ≤ wd ∧ wd ≤ 6
  d1 : 1 ≤ dp ∧ dp ≤ 4
  ws : h.water.Sublist (rowsOf dp wd)
  ss : h.shut.Sublist (rowsOf dp wd)
  bx : 1 ≤ h.bay.x ∧ h.bay.x ≤ h.wide
  by_ : 1 ≤ h.bay.y ∧ h.bay.y ≤ h.deep
  bl : (h.bears.length : Int) = baysOf h
  bs : ∀ b ∈ h.bears, 0 ≤ b ∧ b ≤ 300
  k1 : 1 ≤ h.kinds.length ∧ h.kinds.length ≤ 6
  ks : ∀ k ∈ h.kinds, KGood h.kinds.length k
theorem KGood.ok {h : Ha} {k : Ki} (g : KGood h.kinds.length k) : kindErr h k = 0 := by
  obtain ⟨g1, g2, g3, g4, g5, g6, g7⟩ := g
  have a1 : inR k.lo 0 1000000 = true := inR_true.2 (by omega)
  have a2 : inR k.hi 0 1000000 = true := inR_true.2 (by omega)
  have a3 : inR k.rent 0 1000000 = true := inR_true.2 (by omega)
  have a4 : inR k.most 0 24 = true := inR_true.2 (by omega)
  have a5 : k.away.any (fun n => !inR n 0 9) = false := by
    rw [List.any_eq_false]
    intro a ha
    have := g5 a ha
    rw [inR_true.2 (show 0 ≤ a ∧ a ≤ 9 by omega)]
    simp
  unfold kindErr
  rw [a1, a2, a3, a4, a5]
  simp [g4]
  omega
theorem HGood.ok {wd dp : Nat} {h : Ha} (g : HGood wd dp h) : hallErr h = 0 := by
  obtain ⟨g1, g2, g3, g4, g5, g6, g7, g8, g9, g10, g11, g12⟩ := g
  have hn : dp * wd ≤ 24 := by
    have : dp * wd ≤ 4 * 6 := Nat.mul_le_mul g4.2 g3.2
    omega
  have a1 : inR h.wide 1 6 = true := inR_true.2 (by omega)
  have a2 : inR h.deep 1 4 = true := inR_true.2 (by omega)
  have a3 : inR h.bay.x 1 h.wide = true := inR_true.2 g7
  have a4 : inR h.bay.y 1 h.deep = true := inR_true.2 g8
  have a5 : h.bears.any (fun n => !inR n 0 10000000) = false := by
    rw [List.any_eq_false]
    intro a ha
    have := g10 a ha
    rw [inR_true.2 (show 0 ≤ a ∧ a ≤ 10000000 by omega)]
    simp
  have a6 : firstErr (kindErrAt h) h.kinds.length = 0 := by
    rw [firstErr_zero]
    intro i hi
    unfold kindErrAt
    rw [List.getElem?_eq_getElem hi]
    exact (g12 _ (List.getElem_mem hi)).ok
  unfold hallErr
  rw [a1, a2, a3, a4, a5, a6, cells_sub g5 g1 g2 hn, cells_sub g6 g1 g2 hn]
  rw [if_neg (by decide), if_neg (by decide), if_neg (by decide), if_neg (by decide), if_neg (by rw [g9]; simp), if_neg (by decide), if_neg (by omega), if_neg (by omega)]
theorem bays_le {h : Ha} (V : VH h) : baysOf h ≤ 24 := by
  have hx := V.x1
  have hy := V.y1
  have hw := V.w2
  have hd := V.d2
  have w1 := V.w1
  have d1 := V.d1
  unfold baysOf colsOf
  rw [div_up hx, div_up hy]
  have h1 := div_le (n := h.wide - 1) (b := h.bay.x) (by omega) hx
  have h2 := div_le (n := h.deep - 1) (b := h.bay.y) (by omega) hy
  have := mul_le (a := (h.wide - 1) / h.bay.x + 1) (b := (h.deep - 1) / h.bay.y + 1) (m := 6) (n := 4) (by omega) (by omega) (by omega) (by omega)
  omega
theorem HGood.fin {wd dp : Nat} {h : Ha} (g : HGood wd dp h) : Fin h := by
  have V := VH.of g.ok
  have h1 := cells_len V.water
  have h2 := cells_len V.shut
  have hb := bays_le V
  have h3 := V.bears
  have h4 := V.kinds6
  exact ⟨by omega, by omega, by omega, by omega, fun k hk => by have := (g.ks k hk).len; omega⟩
end Go.Proofs.Ytijcmgfblpokhaa.Vm
