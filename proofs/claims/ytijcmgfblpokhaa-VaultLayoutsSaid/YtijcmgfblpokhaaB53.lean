/- A part of the proofs about the chapter of the vaults; it states no condition of its own. -/
import Derived.Test.YtijcmgfblpokhaaB49
import Derived.Test.YtijcmgfblpokhaaB51
import Derived.Test.YtijcmgfblpokhaaB52
set_option linter.unusedVariables false
set_option linter.unusedSimpArgs false
/- Where one more stall may be, on values. (Vm) -/
namespace Go.Proofs.Ytijcmgfblpokhaa.Vm
open Go Go.Proofs
def roomErr (h : Ha) (l : List Pu) (k : Int) : Int := if layoutErr h l ≠ 0 then layoutErr h l else if isKind h k then 0 else 8
def roomL (h : Ha) (l : List Pu) (k : Int) : List Pl := (placesL h).filter fun c => allowedB h (l ++ [⟨c, k⟩])
def roomR (h : Ha) (l : List Pu) (k : Int) : VV := if roomErr h l k = 0 then plsV (roomL h l k) else .p (.sl 0 [])
theorem filter_take_succ {α : Type} (p : α → Bool) {l : List α} {i : Nat} {c : α} (h : l[i]? = some c) : (l.take (i + 1)).filter p = (l.take i).filter p ++ if p c then [c] else [] := by
  rw [List.take_add_one, h, List.filter_append]
  cases hp : p c <;> simp [hp]
set_option maxRecDepth 100000 in
set_option maxHeartbeats 1000000 in
theorem room_vm (h : Ha) (l : List Pu) (kind : Int) (M : Mem) (F : Fin h) (hl : l.length ≤ 1000000) : VC Try.prog 50 [hallV h, pusV l, vi kind] M (fun r M' => M' = M ∧ r = .tup [roomR h l kind, vi (roomErr h l kind)]) := by
  refine VC_ownK T_ok (f := 50) (fn := Try.f50) (by kernel_rfl) rfl Try.ntmps50 (by rfl) (by rfl) ?_
  ((repeat refine W_seq ?_); refine W_region0 T_ok ?_)
  simp (maxSteps := 1000000) only [VL, VM, ↓Gd_none, ↓Gd_t, ↓Gd_f, reduceIte, reduceCtorEq, Int.reduceLE, Int.reduceLT, Int.reduceToNat, Int.reduceNeg, Nat.reduceLT, Nat.reduceEqDiff, Nat.reduceAdd, Nat.reduceSub, Nat.reduceMul, Nat.reduceLeDiff]
  ((repeat refine W_seq ?_); refine W_region0 T_ok ?_)
  simp (maxSteps := 1000000) only [VL, VM, ↓Gd_none, ↓Gd_t, ↓Gd_f, reduceIte, reduceCtorEq, Int.reduceLE, Int.reduceLT, Int.reduceToNat, Int.reduceNeg, Nat.reduceLT, Nat.reduceEqDiff, Nat.reduceAdd, Nat.reduceSub, Nat.reduceMul, Nat.reduceLeDiff]
  apply call_eq (f := 37) (fn := Try.f37) (by kernel_rfl) (by rfl)
  · exact checkLayout_vm h l _ F hl
  simp (maxSteps := 1000000) only [VL, VM, ↓Gd_none, ↓Gd_t, ↓Gd_f, reduceIte, reduceCtorEq, Int.reduceLE, Int.reduceLT, Int.reduceToNat, Int.reduceNeg, Nat.reduceLT, Nat.reduceEqDiff, Nat.reduceAdd, Nat.reduceSub, Nat.reduceMul, Nat.reduceLeDiff]
  ((repeat refine W_seq ?_); refine W_region0 T_ok ?_)
  by_cases e : layoutErr h l = 0
  rotate_left
  · simp (maxSteps := 1000000) only [VL, VM, ↓Gd_none, ↓Gd_t, ↓Gd_f, reduceIte, reduceCtorEq, Int.reduceLE, Int.reduceLT, Int.reduceToNat, Int.reduceNeg, Nat.reduceLT, Nat.reduceEqDiff, Nat.reduceAdd, Nat.reduceSub, Nat.reduceMul, Nat.reduceLeDiff, e]
    ((repeat refine W_seq ?_); refine W_cond (b := true) (by first | rfl | simp only [ev, get_cons, Nat.reduceEqDiff, if_true, if_false, reduceIte]) (fun _ => ?_) (fun h => by cases h))
    ((repeat refine W_seq ?_); refine W_region0 T_ok ?_)
    simp (maxSteps := 1000000) only [VL, VM, ↓Gd_none, ↓Gd_t, ↓Gd_f, reduceIte, reduceCtorEq, Int.reduceLE, Int.reduceLT, Int.reduceToNat, Int.reduceNeg, Nat.reduceLT, Nat.reduceEqDiff, Nat.reduceAdd, Nat.reduceSub, Nat.reduceMul, Nat.reduceLeDiff]
    (repeat refine W_seq ?_)
    refine W_ret ?_
    try simp only [thenQ, blockQ]
    refine ownK_ret0 rfl ?_ ?_
    · exact ⟨rfl, by simp [get_cons, frz, frzL, vtup, roomR, roomErr, e]⟩
    · simp [get_cons, frz, frzL, vtup, refs, refsL]
  have hL := (layout_ok.1 e).2
  have V := VH.of (layout_ok.1 e).1
  have hlen := lay_len hL
  have hk6 := V.kinds6
  have k1 : -9223372036854775808 ≤ (h.kinds.length : Int) - 1 ∧ (h.kinds.length : Int) - 1 < 9223372036854775808 := by omega
  simp (maxSteps := 1000000) only [VL, VM, ↓Gd_none, ↓Gd_t, ↓Gd_f, reduceIte, reduceCtorEq, Int.reduceLE, Int.reduceLT, Int.reduceToNat, Int.reduceNeg, Nat.reduceLT, Nat.reduceEqDiff, Nat.reduceAdd, Nat.reduceSub, Nat.reduceMul, Nat.reduceLeDiff, e]
  ((repeat refine W_seq ?_); refine W_cond (b := false) (by first | rfl | simp only [ev, get_cons, Nat.reduceEqDiff, if_true, if_false, reduceIte]) (fun h => by cases h) (fun _ => ?_))
  ((repeat refine W_seq ?_); refine W_skip ?_)
  simp (maxSteps := 1000000) only [VL, VM, ↓Gd_none, ↓Gd_t, ↓Gd_f, reduceIte, reduceCtorEq, Int.reduceLE, Int.reduceLT, Int.reduceToNat, Int.reduceNeg, Nat.reduceLT, Nat.reduceEqDiff, Nat.reduceAdd, Nat.reduceSub, Nat.reduceMul, Nat.reduceLeDiff]
  ((repeat refine W_seq ?_); refine W_region0 T_ok ?_)
  simp (maxSteps := 1000000) only [VL, VM, ↓Gd_none, ↓Gd_t, ↓Gd_f, reduceIte, reduceCtorEq, Int.reduceLE, Int.reduceLT, Int.reduceToNat, Int.reduceNeg, Nat.reduceLT, Nat.reduceEqDiff, Nat.reduceAdd, Nat.reduceSub, Nat.reduceMul, Nat.reduceLeDiff, k1]
  apply call_eq (f := 77) (fn := Try.f77) (by kernel_rfl) (by rfl)
  · exact in_vm _ _ _ _
  simp (maxSteps := 1000000) only [VL, VM, ↓Gd_none, ↓Gd_t, ↓Gd_f, reduceIte, reduceCtorEq, Int.reduceLE, Int.reduceLT, Int.reduceToNat, Int.reduceNeg, Nat.reduceLT, Nat.reduceEqDiff, Nat.reduceAdd, Nat.reduceSub, Nat.reduceMul, Nat.reduceLeDiff]
  rw [show inR kind 0 ((h.kinds.length : Int) - 1) = isKind h kind from rfl]
  cases hkd : isKind h kind
  · ((repeat refine W_seq ?_); refine W_cond (b := true) (by first | rfl | simp only [ev, get_cons, Nat.reduceEqDiff, if_true, if_false, reduceIte]) (fun _ => ?_) (fun h => by cases h))
    ((repeat refine W_seq ?_); refine W_region0 T_ok ?_)
    simp (maxSteps := 1000000) only [VL, VM, ↓Gd_none, ↓Gd_t, ↓Gd_f, reduceIte, reduceCtorEq, Int.reduceLE, Int.reduceLT, Int.reduceToNat, Int.reduceNeg, Nat.reduceLT, Nat.reduceEqDiff, Nat.reduceAdd, Nat.reduceSub, Nat.reduceMul, Nat.reduceLeDiff]
    (repeat refine W_seq ?_)
    refine W_ret ?_
    try simp only [thenQ, blockQ]
    refine ownK_ret0 rfl ?_ ?_
    · exact ⟨rfl, by simp [get_cons, frz, frzL, vtup, roomR, roomErr, e, hkd]⟩
    · simp [get_cons, frz, frzL, vtup, refs, refsL]
  ((repeat refine W_seq ?_); refine W_cond (b := false) (by first | rfl | simp only [ev, get_cons, Nat.reduceEqDiff, if_true, if_false, reduceIte]) (fun h => by cases h) (fun _ => ?_))
  ((repeat refine W_seq ?_); refine W_skip ?_)
  simp (maxSteps := 1000000) only [VL, VM, ↓Gd_none, ↓Gd_t, ↓Gd_f, reduceIte, reduceCtorEq, Int.reduceLE, Int.reduceLT, Int.reduceToNat, Int.reduceNeg, Nat.reduceLT, Nat.reduceEqDiff, Nat.reduceAdd, Nat.reduceSub, Nat.reduceMul, Nat.reduceLeDiff]
  ((repeat refine W_seq ?_); refine W_region0 T_ok ?_)
  simp (maxSteps := 1000000) only [VL, VM, ↓Gd_none, ↓Gd_t, ↓Gd_f, reduceIte, reduceCtorEq, Int.reduceLE, Int.reduceLT, Int.reduceToNat, Int.reduceNeg, Nat.reduceLT, Nat.reduceEqDiff, Nat.reduceAdd, Nat.reduceSub, Nat.reduceMul, Nat.reduceLeDiff]
  (repeat refine W_seq ?_)
  refine W_ghost (id := M.H.length + 3) (off := 0) (k := 2) (k0 := 0) (cs := [.sf 0 []]) (by rw [hget]; rfl) rfl ?_
  ((repeat refine W_seq ?_); refine W_region0 T_ok ?_)
  simp (maxSteps := 1000000) only [VL, VM, ↓Gd_none, ↓Gd_t, ↓Gd_f, reduceIte, reduceCtorEq, Int.reduceLE, Int.reduceLT, Int.reduceToNat, Int.reduceNeg, Nat.reduceLT, Nat.reduceEqDiff, Nat.reduceAdd, Nat.reduceSub, Nat.reduceMul, Nat.reduceLeDiff]
  apply call_eq (f := 63) (fn := Try.f63) (by kernel_rfl) (by rfl)
  · exact placesF_v h _
  obtain ⟨wd, hwd⟩ := Int.eq_ofNat_of_zero_le (show 0 ≤ h.wide by have := V.w1; omega)
  obtain ⟨dp, hdp⟩ := Int.eq_ofNat_of_zero_le (show 0 ≤ h.deep by have := V.d1; omega)
  have w2 := V.w2
  have d2 := V.d2
  have w6 : wd ≤ 6 := by omega
  have d4 : dp ≤ 4 := by omega
  have hrows : placesL h = rowsOf dp wd := by rw [placesL, hwd, hdp]; rfl
  have q1 : ((l.length + 1) * 24 ≤ 140737488355328) = True := eq_true (by omega)
  simp (maxSteps := 1000000) only [VL, VM, ↓Gd_none, ↓Gd_t, ↓Gd_f, reduceIte, reduceCtorEq, Int.reduceLE, Int.reduceLT, Int.reduceToNat, Int.reduceNeg, Nat.reduceLT, Nat.reduceEqDiff, Nat.reduceAdd, Nat.reduceSub, Nat.reduceMul, Nat.reduceLeDiff]
  ((repeat refine W_seq ?_); refine W_block ?_)
  refine W_places rfl rfl h hwd hdp (by omega) (by omega) [(3, VV.ptr M.H.length 0), (4, VV.ptr (M.H.length + 1) 0), (5, VV.ptr (M.H.length + 2) 0), (9, VV.ptr (M.H.length + 3) 0)] (fun s : List Pl => M.H ++ [.obj (hallC h), .obj [pusV l], .obj [vi kind], .obj [.so (M.H.length + 4) 2 (s.map plP)], .clm s.length 2, .obj (hallC h)]) (fun i s => s = ((rowsOf dp wd).take i).filter fun c => allowedB h (l ++ [⟨c, kind⟩])) [] rfl (fun s => by simp) (by simp) (fun s => by rw [hget]; rfl) (by rfl) ⟨rfl, rfl, rfl, rfl, trivial⟩ (by kernel_rfl) ?_ ?_
  · intro o o' i c s junk hc hs
    dsimp only
    ((repeat refine W_seq ?_); refine W_region0 T_ok ?_)
    simp (maxSteps := 1000000) only [VL, VM, ↓Gd_none, ↓Gd_t, ↓Gd_f, reduceIte, reduceCtorEq, Int.reduceLE, Int.reduceLT, Int.reduceToNat, Int.reduceNeg, Nat.reduceLT, Nat.reduceEqDiff, Nat.reduceAdd, Nat.reduceSub, Nat.reduceMul, Nat.reduceLeDiff]
    refine ⟨junk ++ [.obj [vi c.x, vi c.y]], by simp, ?_⟩
    ((repeat refine W_seq ?_); refine W_block ?_)
    (repeat refine W_seq ?_)
    refine W_drawP T_ok [] (by kernel_rfl) (by kernel_rfl) ?_
    generalize hi : mkPlan _ = infs
    cbv at hi
    subst hi
    simp (maxSteps := 1000000) only [VL, VM, ↓Gd_none, ↓Gd_t, ↓Gd_f, reduceIte, reduceCtorEq, Int.reduceLE, Int.reduceLT, Int.reduceToNat, Int.reduceNeg, Nat.reduceLT, Nat.reduceEqDiff, Nat.reduceAdd, Nat.reduceSub, Nat.reduceMul, Nat.reduceLeDiff]
    apply callk_d (f := 67) (fn := Try.f67) (by kernel_rfl) (by rfl)
    · exact clone_v 3 _ _ (.inl rfl) (by rw [List.length_map]; omega)
    simp (maxSteps := 1000000) only [VL, VM, ↓Gd_none, ↓Gd_t, ↓Gd_f, reduceIte, reduceCtorEq, Int.reduceLE, Int.reduceLT, Int.reduceToNat, Int.reduceNeg, Nat.reduceLT, Nat.reduceEqDiff, Nat.reduceAdd, Nat.reduceSub, Nat.reduceMul, Nat.reduceLeDiff, q1]
    generalize hl2 : l ++ [⟨c, kind⟩] = l2
    have hmap : l.map puP ++ [[PV.int .i64 c.x, .int .i64 c.y, .int .i64 kind]] = l2.map puP := by rw [← hl2]; simp
    have hl2n : l2.length = l.length + 1 := by rw [← hl2]; simp
    rw [hmap]
    have hft := filter_take_succ (fun c => allowedB h (l ++ [⟨c, kind⟩])) hc
    simp only [hl2] at hft
    rw [← hs] at hft
    have hsl : s.length ≤ 24 := by
      have h1 := List.length_filter_le (fun c => allowedB h (l ++ [⟨c, kind⟩])) ((rowsOf dp wd).take i)
      rw [← hs] at h1
      have h2 := List.length_take_le i (rowsOf dp wd)
      rw [List.length_take] at h1
      have h3 : (rowsOf dp wd).length ≤ 24 := by
        rw [rowsOf_len]
        have : dp * wd ≤ 4 * 6 := Nat.mul_le_mul d4 w6
        omega
      omega
    have q2 : ((s.length + 1) * 16 ≤ 140737488355328) = True := eq_true (by omega)
    ((repeat refine W_seq ?_); refine W_region0 T_ok ?_)
    simp (maxSteps := 1000000) only [VL, VM, ↓Gd_none, ↓Gd_t, ↓Gd_f, reduceIte, reduceCtorEq, Int.reduceLE, Int.reduceLT, Int.reduceToNat, Int.reduceNeg, Nat.reduceLT, Nat.reduceEqDiff, Nat.reduceAdd, Nat.reduceSub, Nat.reduceMul, Nat.reduceLeDiff]
    apply call_eq (f := 68) (fn := Try.f68) (by kernel_rfl) (by rfl)
    · exact checklayout_vm h l2 _ V (by omega)
    by_cases e2 : layErr h l2 = 0
    rotate_left
    · have ea : allowedB h l2 = false := by unfold allowedB; rw [decide_eq_false e2]; rfl
      simp (maxSteps := 1000000) only [VL, VM, ↓Gd_none, ↓Gd_t, ↓Gd_f, reduceIte, reduceCtorEq, Int.reduceLE, Int.reduceLT, Int.reduceToNat, Int.reduceNeg, Nat.reduceLT, Nat.reduceEqDiff, Nat.reduceAdd, Nat.reduceSub, Nat.reduceMul, Nat.reduceLeDiff, e2]
      ((repeat refine W_seq ?_); refine W_cond (b := false) (by first | rfl | simp only [ev, get_cons, Nat.reduceEqDiff, if_true, if_false, reduceIte]) (fun h => by cases h) (fun _ => ?_))
      ((repeat refine W_seq ?_); refine W_skip ?_)
      simp only [blockQ]
      refine ⟨trivial, s, _, rfl, ?_⟩
      rw [hft, ea]; simp
    simp (maxSteps := 1000000) only [VL, VM, ↓Gd_none, ↓Gd_t, ↓Gd_f, reduceIte, reduceCtorEq, Int.reduceLE, Int.reduceLT, Int.reduceToNat, Int.reduceNeg, Nat.reduceLT, Nat.reduceEqDiff, Nat.reduceAdd, Nat.reduceSub, Nat.reduceMul, Nat.reduceLeDiff, e2]
    apply call_eq (f := 69) (fn := Try.f69) (by kernel_rfl) (by rfl)
    · exact bears_vm h l2 _ V (lay_good e2) (by omega)
    by_cases e3 : verdictOf h l2 = 1
    rotate_left
    · have ea : allowedB h l2 = false := by unfold allowedB; rw [decide_eq_false e3]; simp
      simp (maxSteps := 1000000) only [VL, VM, ↓Gd_none, ↓Gd_t, ↓Gd_f, reduceIte, reduceCtorEq, Int.reduceLE, Int.reduceLT, Int.reduceToNat, Int.reduceNeg, Nat.reduceLT, Nat.reduceEqDiff, Nat.reduceAdd, Nat.reduceSub, Nat.reduceMul, Nat.reduceLeDiff, e3]
      ((repeat refine W_seq ?_); refine W_cond (b := false) (by first | rfl | simp only [ev, get_cons, Nat.reduceEqDiff, if_true, if_false, reduceIte]) (fun h => by cases h) (fun _ => ?_))
      ((repeat refine W_seq ?_); refine W_skip ?_)
      simp only [blockQ]
      refine ⟨trivial, s, _, rfl, ?_⟩
      rw [hft, ea]; simp
    have ea : allowedB h l2 = true := by unfold allowedB; rw [decide_eq_true e2, decide_eq_true e3]; rfl
    simp (maxSteps := 1000000) only [VL, VM, ↓Gd_none, ↓Gd_t, ↓Gd_f, reduceIte, reduceCtorEq, Int.reduceLE, Int.reduceLT, Int.reduceToNat, Int.reduceNeg, Nat.reduceLT, Nat.reduceEqDiff, Nat.reduceAdd, Nat.reduceSub, Nat.reduceMul, Nat.reduceLeDiff, e3]
    ((repeat refine W_seq ?_); refine W_cond (b := true) (by first | rfl | simp only [ev, get_cons, Nat.reduceEqDiff, if_true, if_false, reduceIte]) (fun _ => ?_) (fun h => by cases h))
    ((repeat refine W_seq ?_); refine W_region0 T_ok ?_)
    simp (maxSteps := 1000000) only [VL, VM, ↓Gd_none, ↓Gd_t, ↓Gd_f, reduceIte, reduceCtorEq, Int.reduceLE, Int.reduceLT, Int.reduceToNat, Int.reduceNeg, Nat.reduceLT, Nat.reduceEqDiff, Nat.reduceAdd, Nat.reduceSub, Nat.reduceMul, Nat.reduceLeDiff, q2]
    refine ⟨s ++ [c], junk ++ [.obj [vi c.x, vi c.y], .clm (l.length + 1) 3], ?_, by rw [hft, ea]; rfl⟩
    rw [addLg_has (by simp)]
    simp
  · intro o s hs
    simp only [thenQ, blockQ]
    ((repeat refine W_seq ?_); refine W_region0 T_ok ?_)
    simp (maxSteps := 1000000) only [VL, VM, ↓Gd_none, ↓Gd_t, ↓Gd_f, reduceIte, reduceCtorEq, Int.reduceLE, Int.reduceLT, Int.reduceToNat, Int.reduceNeg, Nat.reduceLT, Nat.reduceEqDiff, Nat.reduceAdd, Nat.reduceSub, Nat.reduceMul, Nat.reduceLeDiff]
    rw [List.take_of_length_le (by rw [rowsOf_len]; exact Nat.le_refl _), ← hrows] at hs
    subst hs
    (repeat refine W_seq ?_)
    refine W_ret ?_
    try simp only [thenQ, blockQ]
    refine ownK_ret (L' := _) (X := [(M.H.length + 3, M.H.length + 4)]) (by simp) (vkill_one (j := 6) rfl) rfl ?_ ?_
    · exact ⟨rfl, by simp [get_cons, frz, frzL, vtup, roomR, roomErr, e, hkd, roomL]⟩
    · simp [get_cons, frz, frzL, vtup, refs, refsL]
set_option maxRecDepth 100000 in
theorem refRoom_v (h : Ha) (l : List Pu) (kind : Int) (M : Mem) (F : Fin h) (hl : l.length ≤ 1000000) : VC Try.prog 51 [hallV h, pusV l, vi kind] M (fun r M' => M' = M ∧ r = .tup [roomR h l kind, vi (roomErr h l kind)]) := by
  refine VC_own' T_ok (f := 51) (fn := Try.f51) (by kernel_rfl) rfl Try.ntmps51 (by rfl) (by rfl) ?_
  ((repeat refine W_seq ?_); refine W_region0 T_ok ?_)
  simp (maxSteps := 1000000) only [VL, VM, ↓Gd_none, ↓Gd_t, ↓Gd_f, reduceIte, reduceCtorEq, Int.reduceLE, Int.reduceLT, Int.reduceToNat, Int.reduceNeg, Nat.reduceLT, Nat.reduceEqDiff, Nat.reduceAdd, Nat.reduceSub, Nat.reduceMul, Nat.reduceLeDiff]
  ((repeat refine W_seq ?_); refine W_region0 T_ok ?_)
  simp (maxSteps := 1000000) only [VL, VM, ↓Gd_none, ↓Gd_t, ↓Gd_f, reduceIte, reduceCtorEq, Int.reduceLE, Int.reduceLT, Int.reduceToNat, Int.reduceNeg, Nat.reduceLT, Nat.reduceEqDiff, Nat.reduceAdd, Nat.reduceSub, Nat.reduceMul, Nat.reduceLeDiff]
  apply call_eq (f := 38) (fn := Try.f38) (by kernel_rfl) (by rfl)
  · exact refCheckLayout_v h l _ F hl
  simp (maxSteps := 1000000) only [VL, VM, ↓Gd_none, ↓Gd_t, ↓Gd_f, reduceIte, reduceCtorEq, Int.reduceLE, Int.reduceLT, Int.reduceToNat, Int.reduceNeg, Nat.reduceLT, Nat.reduceEqDiff, Nat.reduceAdd, Nat.reduceSub, Nat.reduceMul, Nat.reduceLeDiff]
  ((repeat refine W_seq ?_); refine W_region0 T_ok ?_)
  by_cases e : layoutErr h l = 0
  rotate_left
  · simp (maxSteps := 1000000) only [VL, VM, ↓Gd_none, ↓Gd_t, ↓Gd_f, reduceIte, reduceCtorEq, Int.reduceLE, Int.reduceLT, Int.reduceToNat, Int.reduceNeg, Nat.reduceLT, Nat.reduceEqDiff, Nat.reduceAdd, Nat.reduceSub, Nat.reduceMul, Nat.reduceLeDiff, e]
    ((repeat refine W_seq ?_); refine W_cond (b := true) (by first | rfl | simp only [ev, get_cons, Nat.reduceEqDiff, if_true, if_false, reduceIte]) (fun _ => ?_) (fun h => by cases h))
    ((repeat refine W_seq ?_); refine W_region0 T_ok ?_)
    simp (maxSteps := 1000000) only [VL, VM, ↓Gd_none, ↓Gd_t, ↓Gd_f, reduceIte, reduceCtorEq, Int.reduceLE, Int.reduceLT, Int.reduceToNat, Int.reduceNeg, Nat.reduceLT, Nat.reduceEqDiff, Nat.reduceAdd, Nat.reduceSub, Nat.reduceMul, Nat.reduceLeDiff]
    (repeat refine W_seq ?_)
    refine W_ret ?_
    try simp only [thenQ, blockQ]
    refine own_ret2 rfl ?_ ?_ ?_ rfl
    · simp [get_cons, frz, roomR, roomErr, e]
    · simp [get_cons, frz, roomR, roomErr, e]
    · simp [roomR, roomErr, e, refs]
  have hL := (layout_ok.1 e).2
  have V := VH.of (layout_ok.1 e).1
  have hlen := lay_len hL
  have hk6 := V.kinds6
  have k1 : -9223372036854775808 ≤ (h.kinds.length : Int) - 1 ∧ (h.kinds.length : Int) - 1 < 9223372036854775808 := by omega
  simp (maxSteps := 1000000) only [VL, VM, ↓Gd_none, ↓Gd_t, ↓Gd_f, reduceIte, reduceCtorEq, Int.reduceLE, Int.reduceLT, Int.reduceToNat, Int.reduceNeg, Nat.reduceLT, Nat.reduceEqDiff, Nat.reduceAdd, Nat.reduceSub, Nat.reduceMul, Nat.reduceLeDiff, e]
  ((repeat refine W_seq ?_); refine W_cond (b := false) (by first | rfl | simp only [ev, get_cons, Nat.reduceEqDiff, if_true, if_false, reduceIte]) (fun h => by cases h) (fun _ => ?_))
  ((repeat refine W_seq ?_); refine W_skip ?_)
  simp (maxSteps := 1000000) only [VL, VM, ↓Gd_none, ↓Gd_t, ↓Gd_f, reduceIte, reduceCtorEq, Int.reduceLE, Int.reduceLT, Int.reduceToNat, Int.reduceNeg, Nat.reduceLT, Nat.reduceEqDiff, Nat.reduceAdd, Nat.reduceSub, Nat.reduceMul, Nat.reduceLeDiff]
  ((repeat refine W_seq ?_); refine W_region0 T_ok ?_)
  simp (maxSteps := 1000000) only [VL, VM, ↓Gd_none, ↓Gd_t, ↓Gd_f, reduceIte, reduceCtorEq, Int.reduceLE, Int.reduceLT, Int.reduceToNat, Int.reduceNeg, Nat.reduceLT, Nat.reduceEqDiff, Nat.reduceAdd, Nat.reduceSub, Nat.reduceMul, Nat.reduceLeDiff, k1]
  apply call_eq (f := 54) (fn := Try.f54) (by kernel_rfl) (by rfl)
  · exact within_v _ _ _ _
  simp (maxSteps := 1000000) only [VL, VM, ↓Gd_none, ↓Gd_t, ↓Gd_f, reduceIte, reduceCtorEq, Int.reduceLE, Int.reduceLT, Int.reduceToNat, Int.reduceNeg, Nat.reduceLT, Nat.reduceEqDiff, Nat.reduceAdd, Nat.reduceSub, Nat.reduceMul, Nat.reduceLeDiff]
  rw [show inR kind 0 ((h.kinds.length : Int) - 1) = isKind h kind from rfl]
  cases hkd : isKind h kind
  · ((repeat refine W_seq ?_); refine W_cond (b := true) (by first | rfl | simp only [ev, get_cons, Nat.reduceEqDiff, if_true, if_false, reduceIte]) (fun _ => ?_) (fun h => by cases h))
    ((repeat refine W_seq ?_); refine W_region0 T_ok ?_)
    simp (maxSteps := 1000000) only [VL, VM, ↓Gd_none, ↓Gd_t, ↓Gd_f, reduceIte, reduceCtorEq, Int.reduceLE, Int.reduceLT, Int.reduceToNat, Int.reduceNeg, Nat.reduceLT, Nat.reduceEqDiff, Nat.reduceAdd, Nat.reduceSub, Nat.reduceMul, Nat.reduceLeDiff]
    (repeat refine W_seq ?_)
    refine W_ret ?_
    try simp only [thenQ, blockQ]
    refine own_ret2 rfl ?_ ?_ ?_ rfl
    · simp [get_cons, frz, roomR, roomErr, e, hkd]
    · simp [get_cons, frz, roomR, roomErr, e, hkd]
    · simp [roomR, roomErr, e, hkd, refs]
  ((repeat refine W_seq ?_); refine W_cond (b := false) (by first | rfl | simp only [ev, get_cons, Nat.reduceEqDiff, if_true, if_false, reduceIte]) (fun h => by cases h) (fun _ => ?_))
  ((repeat refine W_seq ?_); refine W_skip ?_)
  simp (maxSteps := 1000000) only [VL, VM, ↓Gd_none, ↓Gd_t, ↓Gd_f, reduceIte, reduceCtorEq, Int.reduceLE, Int.reduceLT, Int.reduceToNat, Int.reduceNeg, Nat.reduceLT, Nat.reduceEqDiff, Nat.reduceAdd, Nat.reduceSub, Nat.reduceMul, Nat.reduceLeDiff]
  ((repeat refine W_seq ?_); refine W_region0 T_ok ?_)
  simp (maxSteps := 1000000) only [VL, VM, ↓Gd_none, ↓Gd_t, ↓Gd_f, reduceIte, reduceCtorEq, Int.reduceLE, Int.reduceLT, Int.reduceToNat, Int.reduceNeg, Nat.reduceLT, Nat.reduceEqDiff, Nat.reduceAdd, Nat.reduceSub, Nat.reduceMul, Nat.reduceLeDiff]
  refine W_tok (t := 9) (k := 2) rfl ?_
  obtain ⟨wd, hwd⟩ := Int.eq_ofNat_of_zero_le (show 0 ≤ h.wide by have := V.w1; omega)
  obtain ⟨dp, hdp⟩ := Int.eq_ofNat_of_zero_le (show 0 ≤ h.deep by have := V.d1; omega)
  have w2 := V.w2
  have d2 := V.d2
  have w6 : wd ≤ 6 := by omega
  have d4 : dp ≤ 4 := by omega
  have hrows : placesL h = rowsOf dp wd := by rw [placesL, hwd, hdp]; rfl
  have hrl : (rowsOf dp wd).length ≤ 24 := by
    rw [rowsOf_len]
    have : dp * wd ≤ 4 * 6 := Nat.mul_le_mul d4 w6
    omega
  have q0 : (l.length * 24 ≤ 140737488355328) = True := eq_true (by omega)
  have q1 : ((l.length + 1) * 24 ≤ 140737488355328) = True := eq_true (by omega)
  ((repeat refine W_seq ?_); refine W_region0 T_ok ?_)
  simp (maxSteps := 1000000) only [VL, VM, ↓Gd_none, ↓Gd_t, ↓Gd_f, reduceIte, reduceCtorEq, Int.reduceLE, Int.reduceLT, Int.reduceToNat, Int.reduceNeg, Nat.reduceLT, Nat.reduceEqDiff, Nat.reduceAdd, Nat.reduceSub, Nat.reduceMul, Nat.reduceLeDiff]
  apply call_eq (f := 59) (fn := Try.f59) (by kernel_rfl) (by rfl)
  · exact places_v h wd dp _ hwd hdp (by omega) (by omega)
  simp (maxSteps := 1000000) only [VL, VM, ↓Gd_none, ↓Gd_t, ↓Gd_f, reduceIte, reduceCtorEq, Int.reduceLE, Int.reduceLT, Int.reduceToNat, Int.reduceNeg, Nat.reduceLT, Nat.reduceEqDiff, Nat.reduceAdd, Nat.reduceSub, Nat.reduceMul, Nat.reduceLeDiff]
  ((repeat refine W_seq ?_); refine W_region0 T_ok ?_)
  simp (maxSteps := 1000000) only [VL, VM, ↓Gd_none, ↓Gd_t, ↓Gd_f, reduceIte, reduceCtorEq, Int.reduceLE, Int.reduceLT, Int.reduceToNat, Int.reduceNeg, Nat.reduceLT, Nat.reduceEqDiff, Nat.reduceAdd, Nat.reduceSub, Nat.reduceMul, Nat.reduceLeDiff]
  ((repeat refine W_seq ?_); refine W_block ?_; (repeat refine W_seq ?_)); refine W_loopS (fun s : Nat × List VObj => [(1, pusV l), (2, vi kind), (3, .ptr M.H.length 0), (9, .so (M.H.length + 1) 2 ((((rowsOf dp wd).take s.1).filter fun c => allowedB h (l ++ [⟨c, kind⟩])).map plP)), (10, plsV (rowsOf dp wd)), (11, vi s.1)]) (fun s => ⟨M.H ++ (VObj.obj (hallC h) :: .clm (((rowsOf dp wd).take s.1).filter fun c => allowedB h (l ++ [⟨c, kind⟩])).length 2 :: s.2), M.lg⟩) (fun s => (rowsOf dp wd).length - s.1) (fun s => s.1 ≤ (rowsOf dp wd).length) (0, []) (Nat.zero_le _) ⟨rfl, rfl, rfl, rfl, rfl, rfl, trivial⟩ rfl ?_
  rintro ⟨i, junk⟩ hi
  simp only at hi
  have k1 : -9223372036854775808 ≤ (i : Int) + 1 ∧ (i : Int) + 1 < 9223372036854775808 := by omega
  ((repeat refine W_seq ?_); refine W_region0 T_ok ?_)
  rcases Nat.lt_or_ge i (rowsOf dp wd).length with hlt | hge
  rotate_left
  · have k2 : ((i : Int) < ((rowsOf dp wd).length : Int)) = False := eq_false (by omega)
    obtain rfl : i = (rowsOf dp wd).length := by omega
    simp (maxSteps := 1000000) only [VL, VM, ↓Gd_none, ↓Gd_t, ↓Gd_f, reduceIte, reduceCtorEq, Int.reduceLE, Int.reduceLT, Int.reduceToNat, Int.reduceNeg, Nat.reduceLT, Nat.reduceEqDiff, Nat.reduceAdd, Nat.reduceSub, Nat.reduceMul, Nat.reduceLeDiff, k2]
    ((repeat refine W_seq ?_); refine W_cond (b := false) (by first | rfl | simp only [ev, get_cons, Nat.reduceEqDiff, if_true, if_false, reduceIte]) (fun h => by cases h) (fun _ => ?_))
    ((repeat refine W_seq ?_); refine W_exit ?_)
    simp (maxSteps := 1000000) only [VL, VM, ↓Gd_none, ↓Gd_t, ↓Gd_f, reduceIte, reduceCtorEq, Int.reduceLE, Int.reduceLT, Int.reduceToNat, Int.reduceNeg, Nat.reduceLT, Nat.reduceEqDiff, Nat.reduceAdd, Nat.reduceSub, Nat.reduceMul, Nat.reduceLeDiff]
    ((repeat refine W_seq ?_); refine W_region0 T_ok ?_)
    simp (maxSteps := 1000000) only [VL, VM, ↓Gd_none, ↓Gd_t, ↓Gd_f, reduceIte, reduceCtorEq, Int.reduceLE, Int.reduceLT, Int.reduceToNat, Int.reduceNeg, Nat.reduceLT, Nat.reduceEqDiff, Nat.reduceAdd, Nat.reduceSub, Nat.reduceMul, Nat.reduceLeDiff]
    (repeat refine W_seq ?_)
    refine W_ret ?_
    try simp only [thenQ, blockQ]
    refine own_ret2 rfl ?_ ?_ ?_ rfl
    · simp [get_cons, frz, roomR, roomErr, e, hkd, roomL, hrows]
    · simp [get_cons, frz, roomR, roomErr, e, hkd, roomL, hrows]
    · simp [roomR, roomErr, e, hkd, refs]
  have k2 : ((i : Int) < ((rowsOf dp wd).length : Int)) = True := eq_true (by omega)
  have hc : (rowsOf dp wd)[i]? = some ((rowsOf dp wd)[i]'hlt) := List.getElem?_eq_getElem hlt
  generalize (rowsOf dp wd)[i]'hlt = c at hc
  have hc' := map_at (f := plP) hc
  have hft := filter_take_succ (fun c => allowedB h (l ++ [⟨c, kind⟩])) hc
  have hsl : (((rowsOf dp wd).take i).filter fun c => allowedB h (l ++ [⟨c, kind⟩])).length ≤ 24 := by
    have h1 := List.length_filter_le (fun c => allowedB h (l ++ [⟨c, kind⟩])) ((rowsOf dp wd).take i)
    rw [List.length_take] at h1
    omega
  generalize hs : (((rowsOf dp wd).take i).filter fun c => allowedB h (l ++ [⟨c, kind⟩])) = s at hft hsl
  have q2 : ((s.length + 1) * 16 ≤ 140737488355328) = True := eq_true (by omega)
  generalize hl2 : l ++ [⟨c, kind⟩] = l2 at hft
  have hmap : l.map puP ++ [[PV.int .i64 c.x, .int .i64 c.y, .int .i64 kind]] = l2.map puP := by rw [← hl2]; simp
  have hl2n : l2.length = l.length + 1 := by rw [← hl2]; simp
  simp (maxSteps := 1000000) only [VL, VM, ↓Gd_none, ↓Gd_t, ↓Gd_f, reduceIte, reduceCtorEq, Int.reduceLE, Int.reduceLT, Int.reduceToNat, Int.reduceNeg, Nat.reduceLT, Nat.reduceEqDiff, Nat.reduceAdd, Nat.reduceSub, Nat.reduceMul, Nat.reduceLeDiff, k2]
  ((repeat refine W_seq ?_); refine W_cond (b := true) (by first | rfl | simp only [ev, get_cons, Nat.reduceEqDiff, if_true, if_false, reduceIte]) (fun _ => ?_) (fun h => by cases h))
  ((repeat refine W_seq ?_); refine W_skip ?_)
  simp (maxSteps := 1000000) only [VL, VM, ↓Gd_none, ↓Gd_t, ↓Gd_f, reduceIte, reduceCtorEq, Int.reduceLE, Int.reduceLT, Int.reduceToNat, Int.reduceNeg, Nat.reduceLT, Nat.reduceEqDiff, Nat.reduceAdd, Nat.reduceSub, Nat.reduceMul, Nat.reduceLeDiff]
  ((repeat refine W_seq ?_); refine W_block ?_)
  (repeat refine W_seq ?_)
  refine W_drawP T_ok [] (by kernel_rfl) (by kernel_rfl) ?_
  generalize hi : mkPlan _ = infs
  cbv at hi
  subst hi
  simp (maxSteps := 1000000) only [VL, VM, ↓Gd_none, ↓Gd_t, ↓Gd_f, reduceIte, reduceCtorEq, Int.reduceLE, Int.reduceLT, Int.reduceToNat, Int.reduceNeg, Nat.reduceLT, Nat.reduceEqDiff, Nat.reduceAdd, Nat.reduceSub, Nat.reduceMul, Nat.reduceLeDiff, hc', q0, q1]
  rw [hmap]
  apply call_d (f := 84) (fn := Try.f84) (by kernel_rfl) (by rfl)
  · exact allowed_v h l2 _ V (by omega)
  simp (maxSteps := 1000000) only [VL, VM, ↓Gd_none, ↓Gd_t, ↓Gd_f, reduceIte, reduceCtorEq, Int.reduceLE, Int.reduceLT, Int.reduceToNat, Int.reduceNeg, Nat.reduceLT, Nat.reduceEqDiff, Nat.reduceAdd, Nat.reduceSub, Nat.reduceMul, Nat.reduceLeDiff, hc', q0, q1]
  cases ha : allowedB h l2
  · rw [ha] at hft
    ((repeat refine W_seq ?_); refine W_cond (b := false) (by first | rfl | simp only [ev, get_cons, Nat.reduceEqDiff, if_true, if_false, reduceIte]) (fun h => by cases h) (fun _ => ?_))
    ((repeat refine W_seq ?_); refine W_skip ?_)
    simp (maxSteps := 1000000) only [VL, VM, ↓Gd_none, ↓Gd_t, ↓Gd_f, reduceIte, reduceCtorEq, Int.reduceLE, Int.reduceLT, Int.reduceToNat, Int.reduceNeg, Nat.reduceLT, Nat.reduceEqDiff, Nat.reduceAdd, Nat.reduceSub, Nat.reduceMul, Nat.reduceLeDiff]
    ((repeat refine W_seq ?_); refine W_region0 T_ok ?_)
    simp (maxSteps := 1000000) only [VL, VM, ↓Gd_none, ↓Gd_t, ↓Gd_f, reduceIte, reduceCtorEq, Int.reduceLE, Int.reduceLT, Int.reduceToNat, Int.reduceNeg, Nat.reduceLT, Nat.reduceEqDiff, Nat.reduceAdd, Nat.reduceSub, Nat.reduceMul, Nat.reduceLeDiff, k1]
    refine LoopK.mk (i + 1, junk ++ [.clm (l.length + 1) 3]) (by simp only; omega) (by simp only; omega) ⟨rfl, rfl, rfl, ?_, rfl, rfl, trivial⟩ ?_
    · simp [get_cons, hft]
    · simp [hft]
  · rw [ha] at hft
    ((repeat refine W_seq ?_); refine W_cond (b := true) (by first | rfl | simp only [ev, get_cons, Nat.reduceEqDiff, if_true, if_false, reduceIte]) (fun _ => ?_) (fun h => by cases h))
    ((repeat refine W_seq ?_); refine W_region0 T_ok ?_)
    simp (maxSteps := 1000000) only [VL, VM, ↓Gd_none, ↓Gd_t, ↓Gd_f, reduceIte, reduceCtorEq, Int.reduceLE, Int.reduceLT, Int.reduceToNat, Int.reduceNeg, Nat.reduceLT, Nat.reduceEqDiff, Nat.reduceAdd, Nat.reduceSub, Nat.reduceMul, Nat.reduceLeDiff, hc', q2]
    ((repeat refine W_seq ?_); refine W_region0 T_ok ?_)
    simp (maxSteps := 1000000) only [VL, VM, ↓Gd_none, ↓Gd_t, ↓Gd_f, reduceIte, reduceCtorEq, Int.reduceLE, Int.reduceLT, Int.reduceToNat, Int.reduceNeg, Nat.reduceLT, Nat.reduceEqDiff, Nat.reduceAdd, Nat.reduceSub, Nat.reduceMul, Nat.reduceLeDiff, k1]
    refine LoopK.mk (i + 1, junk ++ [.clm (l.length + 1) 3]) (by simp only; omega) (by simp only; omega) ⟨rfl, rfl, rfl, ?_, rfl, rfl, trivial⟩ ?_
    · simp [get_cons, hft]
    · simp [hft]
end Go.Proofs.Ytijcmgfblpokhaa.Vm

/- Laws of halls: what comes in, as values. (Vm) -/
namespace Go.Proofs.Ytijcmgfblpokhaa.Vm
open Go Go.Proofs Go.ChangeShapes Go.WideShapes Go.ChangeAt Go.RowKit
theorem cells_cell : Try.prog.cellsOf 24 = 2 := by kernel_rfl
theorem cells_put : Try.prog.cellsOf 59 = 3 := by kernel_rfl
theorem cells_kind : Try.prog.cellsOf 57 = 6 := by kernel_rfl
theorem ok_hall : okT Try.prog 5 28 = true := by kernel_rfl
theorem ok_puts : okT Try.prog 4 38 = true := by kernel_rfl
theorem ok_put : okT Try.prog 3 59 = true := by kernel_rfl
theorem ok_int : okT Try.prog 1 3 = true := by kernel_rfl
theorem sh_int {xs : List PV} {ts : List TypeId} (h : ShL (3 :: ts) xs) : ∃ n ys, xs = .int .i64 n :: ys ∧ ShL ts ys := by
  obtain ⟨n, ys, rfl, _, h1⟩ := h.int_inv Try.underlying3
  exact ⟨n, ys, rfl, h1⟩
theorem sh_ints' {xs : List PV} {ts : List TypeId} (h : ShL (25 :: ts) xs) : ∃ (l : List Int) (ys : List PV), xs = .sl 1 (l.map intP) :: ys ∧ l.length ≤ maxLen ∧ ShL ts ys := by
  obtain ⟨rows, ys, he, hl, hr, h1⟩ := h.sl_inv Try.underlying25
  obtain ⟨xs, rfl, _⟩ := rows_inv (f := intP) (p := fun _ => True) (fun x hx => by
    obtain ⟨n, ys, rfl, h⟩ := sh_int hx
    obtain rfl := h.nil_inv
    exact ⟨n, rfl, trivial⟩) hr
  rw [cells_int] at he
  exact ⟨xs, ys, he, by simpa using hl, h1⟩
theorem sh_cell {xs : List PV} {ts : List TypeId} (h : ShL (24 :: ts) xs) : ∃ (c : Pl) (ys : List PV), xs = plP c ++ ys ∧ ShL ts ys := by
  have h1 : ShL (3 :: 3 :: ts) xs := h.st_inv Try.underlying24
  obtain ⟨x, ys, rfl, h2⟩ := sh_int h1
  obtain ⟨y, ys, rfl, h3⟩ := sh_int h2
  exact ⟨⟨x, y⟩, ys, rfl, h3⟩
theorem sh_span {xs : List PV} {ts : List TypeId} (h : ShL (54 :: ts) xs) : ∃ (c : Sp) (ys : List PV), xs = spP c ++ ys ∧ ShL ts ys := by
  have h1 : ShL (3 :: 3 :: ts) xs := h.st_inv Try.underlying54
  obtain ⟨x, ys, rfl, h2⟩ := sh_int h1
  obtain ⟨y, ys, rfl, h3⟩ := sh_int h2
  exact ⟨⟨x, y⟩, ys, rfl, h3⟩
theorem sh_cells {xs : List PV} {ts : List TypeId} (h : ShL (22 :: ts) xs) : ∃ (l : List Pl) (ys : List PV), xs = .sl 2 (l.map plP) :: ys ∧ l.length ≤ maxLen ∧ ShL ts ys := by
  obtain ⟨rows, ys, he, hl, hr, h1⟩ := h.sl_inv Try.underlying22
  obtain ⟨xs, rfl, _⟩ := rows_inv (f := plP) (p := fun _ => True) (fun x hx => by
    obtain ⟨n, ys, rfl, h⟩ := sh_cell hx
    obtain rfl := h.nil_inv
    exact ⟨n, List.append_nil _, trivial⟩) hr
  rw [cells_cell] at he
  exact ⟨xs, ys, he, by simpa using hl, h1⟩
theorem sh_put {xs : List PV} {ts : List TypeId} (h : ShL (59 :: ts) xs) : ∃ (c : Pu) (ys : List PV), xs = puP c ++ ys ∧ ShL ts ys := by
  have h1 : ShL (24 :: 3 :: ts) xs := h.st_inv Try.underlying59
  obtain ⟨x, ys, rfl, h2⟩ := sh_cell h1
  obtain ⟨y, ys, rfl, h3⟩ := sh_int h2
  exact ⟨⟨x, y⟩, ys, rfl, h3⟩
theorem sh_puts {xs : List PV} {ts : List TypeId} (h : ShL (38 :: ts) xs) : ∃ (l : List Pu) (ys : List PV), xs = .sl 3 (l.map puP) :: ys ∧ l.length ≤ maxLen ∧ ShL ts ys := by
  obtain ⟨rows, ys, he, hl, hr, h1⟩ := h.sl_inv Try.underlying38
  obtain ⟨xs, rfl, _⟩ := rows_inv (f := puP) (p := fun _ => True) (fun x hx => by
    obtain ⟨n, ys, rfl, h⟩ := sh_put hx
    obtain rfl := h.nil_inv
    exact ⟨n, List.append_nil _, trivial⟩) hr
  rw [cells_put] at he
  exact ⟨xs, ys, he, by simpa using hl, h1⟩
theorem sh_kind {xs : List PV} {ts : List TypeId} (h : ShL (57 :: ts) xs) : ∃ (c : Ki) (ys : List PV), xs = kiP c ++ ys ∧ c.away.length ≤ maxLen ∧ ShL ts ys := by
  have h1 : ShL (54 :: 4 :: 25 :: 3 :: 3 :: ts) xs := h.st_inv Try.underlying57
  obtain ⟨⟨a, b⟩, ys, rfl, h2⟩ := sh_span h1
  obtain ⟨c, ys, rfl, h3⟩ := h2.bool_inv Try.underlying4
  obtain ⟨d, ys, rfl, hl, h4⟩ := sh_ints' h3
  obtain ⟨e, ys, rfl, h5⟩ := sh_int h4
  obtain ⟨f, ys, rfl, h6⟩ := sh_int h5
  exact ⟨{ lo := a, hi := b, water := c, away := d, rent := e, most := f }, ys, rfl, hl, h6⟩
theorem sh_kinds {xs : List PV} {ts : List TypeId} (h : ShL (26 :: ts) xs) : ∃ (l : List Ki) (ys : List PV), xs = .sl 6 (l.map kiP) :: ys ∧ l.length ≤ maxLen ∧ ShL ts ys := by
  obtain ⟨rows, ys, he, hl, hr, h1⟩ := h.sl_inv Try.underlying26
  obtain ⟨xs, rfl, _⟩ := rows_inv (f := kiP) (p := fun _ => True) (fun x hx => by
    obtain ⟨n, ys, rfl, _, h⟩ := sh_kind hx
    obtain rfl := h.nil_inv
    exact ⟨n, List.append_nil _, trivial⟩) hr
  rw [cells_kind] at he
  exact ⟨xs, ys, he, by simpa using hl, h1⟩
theorem sh_hall {xs : List PV} (h : ShL [28] xs) : ∃ c : Ha, xs = hallPP c ∧ c.kinds.length ≤ maxLen ∧ c.water.length ≤ maxLen ∧ c.shut.length ≤ maxLen ∧ c.bears.length ≤ maxLen := by
  have h1 : ShL [3, 3, 22, 22, 24, 25, 26] xs := h.st_inv Try.underlying28
  obtain ⟨a, ys, rfl, h2⟩ := sh_int h1
  obtain ⟨b, ys, rfl, h3⟩ := sh_int h2
  obtain ⟨c, ys, rfl, hc, h4⟩ := sh_cells h3
  obtain ⟨d, ys, rfl, hd, h5⟩ := sh_cells h4
  obtain ⟨e, ys, rfl, h6⟩ := sh_cell h5
  obtain ⟨f, ys, rfl, hf, h7⟩ := sh_ints' h6
  obtain ⟨g, ys, rfl, hg, h8⟩ := sh_kinds h7
  obtain rfl := h8.nil_inv
  exact ⟨{ wide := a, deep := b, water := c, shut := d, bay := e, bears := f, kinds := g }, rfl, hg, hc, hd, hf⟩
section
variable {H : Type} {enc : TypeId × Value → H} {W : World} {b0 : Nat} {v : Value} {d : DataW H} {ps : List MemPlace}
set_option maxRecDepth 100000 in
theorem arg_hall (hv : Value.okWide Try.prog W .any b0 28 v) (h : DataW.Trod enc Try.prog W 0 (fun _ => true) true 28 v d ps) :
    ∃ c : Ha, RepV W (fun _ => none) [] v (hallV c) ∧ c.kinds.length ≤ maxLen ∧ c.water.length ≤ maxLen ∧ c.shut.length ≤ maxLen ∧ c.bears.length ≤ maxLen := by
  obtain ⟨xs, h1, h2⟩ := arg_st Try.underlying28 ok_hall hv h
  obtain ⟨c, rfl, h3⟩ := sh_hall h1
  exact ⟨c, h2, h3⟩
set_option maxRecDepth 100000 in
theorem arg_put (hv : Value.okWide Try.prog W .any b0 59 v) (h : DataW.Trod enc Try.prog W 0 (fun _ => true) true 59 v d ps) :
    ∃ c : Pu, RepV W (fun _ => none) [] v (puV c) := by
  obtain ⟨xs, h1, h2⟩ := arg_st Try.underlying59 ok_put hv h
  obtain ⟨c, ys, rfl, h3⟩ := sh_put h1
  obtain rfl := h3.nil_inv
  exact ⟨c, h2⟩
set_option maxRecDepth 100000 in
theorem arg_puts (hv : Value.okWide Try.prog W .any b0 38 v) (h : DataW.Trod enc Try.prog W 0 (fun _ => true) true 38 v d ps) :
    ∃ l : List Pu, RepV W (fun _ => none) [] v (pusV l) ∧ l.length ≤ maxLen := by
  obtain ⟨u, h1, h2⟩ := arg_slice Try.underlying38 ok_puts hv h
  obtain ⟨l, ys, he, hl, h3⟩ := sh_puts h1
  cases he
  exact ⟨l, h2, hl⟩
set_option maxRecDepth 100000 in
theorem arg_ints (hv : Value.okWide Try.prog W .any b0 25 v) (h : DataW.Trod enc Try.prog W 0 (fun _ => true) true 25 v d ps) :
    ∃ l : List Int, RepV W (fun _ => none) [] v (intsV l) ∧ l.length ≤ maxLen := by
  obtain ⟨u, h1, h2⟩ := arg_slice Try.underlying25 ok_ints hv h
  obtain ⟨l, ys, he, hl, h3⟩ := sh_ints' h1
  cases he
  exact ⟨l, h2, hl⟩
set_option maxRecDepth 100000 in
theorem arg_num (hv : Value.okWide Try.prog W .any b0 3 v) (h : DataW.Trod enc Try.prog W 0 (fun _ => true) true 3 v d ps) :
    ∃ n : Int, RepV W (fun _ => none) [] v (vi n) := by
  obtain ⟨u, h1, h2⟩ := arg_int Try.underlying3 ok_int hv h
  obtain ⟨n, ys, he, h3⟩ := sh_int h1
  cases he
  exact ⟨n, h2⟩
set_option maxRecDepth 100000 in
/-- a law of a hall, a layout, one thing more and numbers -/
theorem hall4_contract {f : Nat} {fn : Func} {s : ChangeSpec} {args : Array Value} {ds gs : List (DataW H)} {before : List MemPlace} (tx : TypeId) {α : Type} (V : α → VV) (hxr : ∀ a, refs (V a) = []) (htx : Try.prog.readableRec tx = true ∧ tx < Try.prog.types.size)
    (hx : ∀ (v : Value) (d : DataW H) (ps : List MemPlace), Value.okWide Try.prog W .any b0 tx v → DataW.Trod enc Try.prog W 0 (fun _ => true) true tx v d ps → ∃ a, RepV W (fun _ => none) [] v (V a)) (hvs : s.vars = [])
    (hs : ∀ d1 d2 d3 d4 : DataW H, (s.fn H [d1, d2, d3, d4]).results = [.lit (.bool true)] ∧ (s.fn H [d1, d2, d3, d4]).args = [d1, d2, d3, d4] ∧ (s.fn H [d1, d2, d3, d4]).vars = []) (hres : fn.resultTypes = #[4]) (hpar : fn.params = #[28, 38, tx, 25])
    (hv : ∀ (h : Ha) (l : List Pu) (a : α) (xs : List Int), xs.length ≤ maxLen → h.kinds.length ≤ maxLen → l.length ≤ maxLen → VC Try.prog f [hallV h, pusV l, V a, intsV xs] ⟨[], []⟩ (fun r M' => M' = ⟨[], []⟩ ∧ r = vb true))
    (hval : ∀ (j : Nat) t v, fn.params[j]? = some t → args[j]? = some v → Value.okWide Try.prog W .any b0 t v)
    (hW : DataW.Whole enc Try.prog fn.params.toList s.vars false W args.toList ds gs before) :
    Calls Try.prog f args W fun e W' => ∃ v, e = .returned v ∧ s.post enc Try.prog fn false true false false W args v W' := by
  have hW' := hW
  obtain ⟨p, q, hA0, hV, rfl, hfz, hnd⟩ := hW
  have hA : DataW.TrodAll enc Try.prog W 0 (fun _ => true) true fn.params.toList args.toList ds p := hA0
  rw [hpar] at hA
  obtain ⟨v0, vs0, d0, ds0, p0, q0, hargs, rfl, rfl, h0, r0⟩ := trodAll_cons hA
  obtain ⟨v1, vs1, d1, ds1, p1, q1, rfl, rfl, rfl, h1, r1⟩ := trodAll_cons r0
  obtain ⟨v2, vs2, d2, ds2, p2, q2, rfl, rfl, rfl, h2, r2⟩ := trodAll_cons r1
  obtain ⟨v3, vs3, d3, ds3, p3, q3, rfl, rfl, rfl, h3, r3⟩ := trodAll_cons r2
  obtain ⟨rfl, rfl, rfl⟩ := trodAll_nil r3
  obtain rfl : args = #[v0, v1, v2, v3] := by cases args; simp_all
  obtain ⟨c, e0, k1, _, _, _⟩ := arg_hall (hval 0 _ v0 (by rw [hpar]; rfl) rfl) h0
  obtain ⟨l, e1, k2⟩ := arg_puts (hval 1 _ v1 (by rw [hpar]; rfl) rfl) h1
  obtain ⟨a, e2⟩ := hx v2 d2 p2 (hval 2 _ v2 (by rw [hpar]; rfl) rfl) h2
  obtain ⟨xs, e3, k3⟩ := arg_ints (hval 3 _ v3 (by rw [hpar]; rfl) rfl) h3
  refine law_post hvs (hs d0 d1 d2 d3) hres (fun t ht => ?_) hW' (law_run (vs := [hallV c, pusV l, V a, intsV xs]) ⟨rfl, fun i a b h1 h2 => ?_⟩ (fun a ha => ?_) (hv c l a xs k3 k1 k2))
  · rw [hpar] at ht
    have ht' : t = 28 ∨ t = 38 ∨ t = tx ∨ t = 25 := by simpa using ht
    rcases ht' with rfl | rfl | rfl | rfl
    · exact ⟨by kernel_rfl, of_decide_eq_true (by kernel_rfl)⟩
    · exact ⟨by kernel_rfl, of_decide_eq_true (by kernel_rfl)⟩
    · exact htx
    · exact ⟨by kernel_rfl, of_decide_eq_true (by kernel_rfl)⟩
  · match i, h1, h2 with
    | 0, h1, h2 => cases h1; cases h2; exact e0
    | 1, h1, h2 => cases h1; cases h2; exact e1
    | 2, h1, h2 => cases h1; cases h2; exact e2
    | 3, h1, h2 => cases h1; cases h2; exact e3
    | i + 4, h1, _ => simp at h1
  · simp only [List.mem_cons, List.not_mem_nil, or_false] at ha
    rcases ha with rfl | rfl | rfl | rfl
    · rfl
    · rfl
    · exact hxr _
    · rfl
set_option maxRecDepth 100000 in
/-- a law of a hall and numbers -/
theorem hall2_contract {f : Nat} {fn : Func} {s : ChangeSpec} {args : Array Value} {ds gs : List (DataW H)} {before : List MemPlace} (hvs : s.vars = [])
    (hs : ∀ d1 d2 : DataW H, (s.fn H [d1, d2]).results = [.lit (.bool true)] ∧ (s.fn H [d1, d2]).args = [d1, d2] ∧ (s.fn H [d1, d2]).vars = []) (hres : fn.resultTypes = #[4]) (hpar : fn.params = #[28, 25])
    (hv : ∀ (h : Ha) (xs : List Int), xs.length ≤ maxLen → h.kinds.length ≤ maxLen → h.shut.length ≤ maxLen → VC Try.prog f [hallV h, intsV xs] ⟨[], []⟩ (fun r M' => M' = ⟨[], []⟩ ∧ r = vb true))
    (hval : ∀ (j : Nat) t v, fn.params[j]? = some t → args[j]? = some v → Value.okWide Try.prog W .any b0 t v)
    (hW : DataW.Whole enc Try.prog fn.params.toList s.vars false W args.toList ds gs before) :
    Calls Try.prog f args W fun e W' => ∃ v, e = .returned v ∧ s.post enc Try.prog fn false true false false W args v W' := by
  have hW' := hW
  obtain ⟨p, q, hA0, hV, rfl, hfz, hnd⟩ := hW
  have hA : DataW.TrodAll enc Try.prog W 0 (fun _ => true) true fn.params.toList args.toList ds p := hA0
  rw [hpar] at hA
  obtain ⟨v0, vs0, d0, ds0, p0, q0, hargs, rfl, rfl, h0, r0⟩ := trodAll_cons hA
  obtain ⟨v1, vs1, d1, ds1, p1, q1, rfl, rfl, rfl, h1, r1⟩ := trodAll_cons r0
  obtain ⟨rfl, rfl, rfl⟩ := trodAll_nil r1
  obtain rfl : args = #[v0, v1] := by cases args; simp_all
  obtain ⟨c, e0, k1, _, k2, _⟩ := arg_hall (hval 0 _ v0 (by rw [hpar]; rfl) rfl) h0
  obtain ⟨xs, e1, k3⟩ := arg_ints (hval 1 _ v1 (by rw [hpar]; rfl) rfl) h1
  refine law_post hvs (hs d0 d1) hres (fun t ht => ?_) hW' (law_run (vs := [hallV c, intsV xs]) ⟨rfl, fun i a b h1 h2 => ?_⟩ (fun a ha => ?_) (hv c xs k3 k1 k2))
  · rw [hpar] at ht
    have ht' : t = 28 ∨ t = 25 := by simpa using ht
    rcases ht' with rfl | rfl
    · exact ⟨by kernel_rfl, of_decide_eq_true (by kernel_rfl)⟩
    · exact ⟨by kernel_rfl, of_decide_eq_true (by kernel_rfl)⟩
  · match i, h1, h2 with
    | 0, h1, h2 => cases h1; cases h2; exact e0
    | 1, h1, h2 => cases h1; cases h2; exact e1
    | i + 2, h1, _ => simp at h1
  · simp only [List.mem_cons, List.not_mem_nil, or_false] at ha
    rcases ha with rfl | rfl
    · rfl
    · rfl
end
end Go.Proofs.Ytijcmgfblpokhaa.Vm
