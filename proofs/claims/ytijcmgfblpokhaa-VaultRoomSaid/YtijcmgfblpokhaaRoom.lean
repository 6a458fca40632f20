/- VaultRoom: for every list of numbers the law answers true, and the numbers read afterwards as before. No conditions. -/
import Derived.Test.YtijcmgfblpokhaaB46
import Derived.Test.YtijcmgfblpokhaaB48
import Derived.Test.YtijcmgfblpokhaaB49
import Derived.Test.YtijcmgfblpokhaaB50
import Derived.Test.YtijcmgfblpokhaaB51
import Derived.Test.YtijcmgfblpokhaaB52
import Derived.Test.YtijcmgfblpokhaaB53
set_option linter.unusedVariables false
set_option linter.unusedSimpArgs false
/- Where one more stall may be, on values. (Vm) -/
namespace Go.Proofs.Ytijcmgfblpokhaa.Vm
open Go Go.Proofs
def roomErr (h : Ha) (l : List Pu) (k : Int) : Int := if layoutErr h l ≠ 0 then layoutErr h l else if isKind h k then 0 else 8
def roomL (h : Ha) (l : List Pu) (k : Int) : List Pl := (placesL h).filter fun c => allowedB h (l ++ [⟨c, k⟩])
def roomR (h : Ha) (l : List Pu) (k : Int) : VV := if roomErr h l k = 0 then plsV (roomL h l k) else .p (.sl 0 [])
theorem filter_take_succ {α : Type} (p : α → Bool) {l : List α} {i : Nat} {c : α} (h : l[i]? = some c) : (l.take (i + 1)).filter p = (l.take i).filter p ++ if p c then [c] else [] := by
  rw [List.take_add_one, h, List.filter_append]
  cases hp : p c <;> simp [hp]
set_option maxRecDepth 100000 in
set_option maxHeartbeats 1000000 in
theorem room_vm (h : Ha) (l : List Pu) (kind : Int) (M : Mem) (F : Fin h) (hl : l.length ≤ 1000000) : VC Try.prog 50 [hallV h, pusV l, vi kind] M (fun r M' => M' = M ∧ r = .tup [roomR h l kind, vi (roomErr h l kind)]) := by
  refine VC_ownK T_ok (f := 50) (fn := Try.f50) (by kernel_rfl) rfl Try.ntmps50 (by rfl) (by rfl) ?_
  ((repeat refine W_seq ?_); refine W_region0 T_ok ?_)
  simp (maxSteps := 1000000) only [VL, VM, ↓Gd_none, ↓Gd_t, ↓Gd_f, reduceIte, reduceCtorEq, Int.reduceLE, Int.reduceLT, Int.reduceToNat, Int.reduceNeg, Nat.reduceLT, Nat.reduceEqDiff, Nat.reduceAdd, Nat.reduceSub, Nat.reduceMul, Nat.reduceLeDiff]
  ((repeat refine W_seq ?_); refine W_region0 T_ok ?_)
  simp (maxSteps := 1000000) only [VL, VM, ↓Gd_none, ↓Gd_t, ↓Gd_f, reduceIte, reduceCtorEq, Int.reduceLE, Int.reduceLT, Int.reduceToNat, Int.reduceNeg, Nat.reduceLT, Nat.reduceEqDiff, Nat.reduceAdd, Nat.reduceSub, Nat.reduceMul, Nat.reduceLeDiff]
  apply call_eq (f := 37) (fn := Try.f37) (by kernel_rfl) (by rfl)
  · exact checkLayout_vm h l _ F hl
  simp (maxSteps := 1000000) only [VL, VM, ↓Gd_none, ↓Gd_t, ↓Gd_f, reduceIte, reduceCtorEq, Int.reduceLE, Int.reduceLT, Int.reduceToNat, Int.reduceNeg, Nat.reduceLT, Nat.reduceEqDiff, Nat.reduceAdd, Nat.reduceSub, Nat.reduceMul, Nat.reduceLeDiff]
  ((repeat refine W_seq ?_); refine W_region0 T_ok ?_)
  by_cases e : layoutErr h l = 0
  rotate_left
  · simp (maxSteps := 1000000) only [VL, VM, ↓Gd_none, ↓Gd_t, ↓Gd_f, reduceIte, reduceCtorEq, Int.reduceLE, Int.reduceLT, Int.reduceToNat, Int.reduceNeg, Nat.reduceLT, Nat.reduceEqDiff, Nat.reduceAdd, Nat.reduceSub, Nat.reduceMul, Nat.reduceLeDiff, e]
    ((repeat refine W_seq ?_); refine W_cond (b := true) (by first | rfl | simp only [ev, get_cons, Nat.reduceEqDiff, if_true, if_false, reduceIte]) (fun _ => ?_) (fun h => by cases h))
    ((repeat refine W_seq ?_); refine W_region0 T_ok ?_)
    simp (maxSteps := 1000000) only [VL, VM, ↓Gd_none, ↓Gd_t, ↓Gd_f, reduceIte, reduceCtorEq, Int.reduceLE, Int.reduceLT, Int.reduceToNat, Int.reduceNeg, Nat.reduceLT, Nat.reduceEqDiff, Nat.reduceAdd, Nat.reduceSub, Nat.reduceMul, Nat.reduceLeDiff]
    (repeat refine W_seq ?_)
    refine W_ret ?_
    try simp only [thenQ, blockQ]
    refine ownK_ret0 rfl ?_ ?_
    · exact ⟨rfl, by simp [get_cons, frz, frzL, vtup, roomR, roomErr, e]⟩
    · simp [get_cons, frz, frzL, vtup, refs, refsL]
  have hL := (layout_ok.1 e).2
  have V := VH.of (layout_ok.1 e).1
  have hlen := lay_len hL
  have hk6 := V.kinds6
  have k1 : -9223372036854775808 ≤ (h.kinds.length : Int) - 1 ∧ (h.kinds.length : Int) - 1 < 9223372036854775808 := by omega
  simp (maxSteps := 1000000) only [VL, VM, ↓Gd_none, ↓Gd_t, ↓Gd_f, reduceIte, reduceCtorEq, Int.reduceLE, Int.reduceLT, Int.reduceToNat, Int.reduceNeg, Nat.reduceLT, Nat.reduceEqDiff, Nat.reduceAdd, Nat.reduceSub, Nat.reduceMul, Nat.reduceLeDiff, e]
  ((repeat refine W_seq ?_); refine W_cond (b := false) (by first | rfl | simp only [ev, get_cons, Nat.reduceEqDiff, if_true, if_false, reduceIte]) (fun h => by cases h) (fun _ => ?_))
  ((repeat refine W_seq ?_); refine W_skip ?_)
  simp (maxSteps := 1000000) only [VL, VM, ↓Gd_none, ↓Gd_t, ↓Gd_f, reduceIte, reduceCtorEq, Int.reduceLE, Int.reduceLT, Int.reduceToNat, Int.reduceNeg, Nat.reduceLT, Nat.reduceEqDiff, Nat.reduceAdd, Nat.reduceSub, Nat.reduceMul, Nat.reduceLeDiff]
  ((repeat refine W_seq ?_); refine W_region0 T_ok ?_)
  simp (maxSteps := 1000000) only [VL, VM, ↓Gd_none, ↓Gd_t, ↓Gd_f, reduceIte, reduceCtorEq, Int.reduceLE, Int.reduceLT, Int.reduceToNat, Int.reduceNeg, Nat.reduceLT, Nat.reduceEqDiff, Nat.reduceAdd, Nat.reduceSub, Nat.reduceMul, Nat.reduceLeDiff, k1]
  apply call_eq (f := 77) (fn := Try.f77) (by kernel_rfl) (by rfl)
  · exact in_vm _ _ _ _
  simp (maxSteps := 1000000) only [VL, VM, ↓Gd_none, ↓Gd_t, ↓Gd_f, reduceIte, reduceCtorEq, Int.reduceLE, Int.reduceLT, Int.reduceToNat, Int.reduceNeg, Nat.reduceLT, Nat.reduceEqDiff, Nat.reduceAdd, Nat.reduceSub, Nat.reduceMul, Nat.reduceLeDiff]
  rw [show inR kind 0 ((h.kinds.length : Int) - 1) = isKind h kind from rfl]
  cases hkd : isKind h kind
  · ((repeat refine W_seq ?_); refine W_cond (b := true) (by first | rfl | simp only [ev, get_cons, Nat.reduceEqDiff, if_true, if_false, reduceIte]) (fun _ => ?_) (fun h => by cases h))
    ((repeat refine W_seq ?_); refine W_region0 T_ok ?_)
    simp (maxSteps := 1000000) only [VL, VM, ↓Gd_none, ↓Gd_t, ↓Gd_f, reduceIte, reduceCtorEq, Int.reduceLE, Int.reduceLT, Int.reduceToNat, Int.reduceNeg, Nat.reduceLT, Nat.reduceEqDiff, Nat.reduceAdd, Nat.reduceSub, Nat.reduceMul, Nat.reduceLeDiff]
    (repeat refine W_seq ?_)
    refine W_ret ?_
    try simp only [thenQ, blockQ]
    refine ownK_ret0 rfl ?_ ?_
    · exact ⟨rfl, by simp [get_cons, frz, frzL, vtup, roomR, roomErr, e, hkd]⟩
    · simp [get_cons, frz, frzL, vtup, refs, refsL]
  ((repeat refine W_seq ?_); refine W_cond (b := false) (by first | rfl | simp only [ev, get_cons, Nat.reduceEqDiff, if_true, if_false, reduceIte]) (fun h => by cases h) (fun _ => ?_))
  ((repeat refine W_seq ?_); refine W_skip ?_)
  simp (maxSteps := 1000000) only [VL, VM, ↓Gd_none, ↓Gd_t, ↓Gd_f, reduceIte, reduceCtorEq, Int.reduceLE, Int.reduceLT, Int.reduceToNat, Int.reduceNeg, Nat.reduceLT, Nat.reduceEqDiff, Nat.reduceAdd, Nat.reduceSub, Nat.reduceMul, Nat.reduceLeDiff]
  ((repeat refine W_seq ?_); refine W_region0 T_ok ?_)
  simp (maxSteps := 1000000) only [VL, VM, ↓Gd_none, ↓Gd_t, ↓Gd_f, reduceIte, reduceCtorEq, Int.reduceLE, Int.reduceLT, Int.reduceToNat, Int.reduceNeg, Nat.reduceLT, Nat.reduceEqDiff, Nat.reduceAdd, Nat.reduceSub, Nat.reduceMul, Nat.reduceLeDiff]
  (repeat refine W_seq ?_)
  refine W_ghost (id := M.H.length + 3) (off := 0) (k := 2) (k0 := 0) (cs := [.sf 0 []]) (by rw [hget]; rfl) rfl ?_
  ((repeat refine W_seq ?_); refine W_region0 T_ok ?_)
  simp (maxSteps := 1000000) only [VL, VM, ↓Gd_none, ↓Gd_t, ↓Gd_f, reduceIte, reduceCtorEq, Int.reduceLE, Int.reduceLT, Int.reduceToNat, Int.reduceNeg, Nat.reduceLT, Nat.reduceEqDiff, Nat.reduceAdd, Nat.reduceSub, Nat.reduceMul, Nat.reduceLeDiff]
  apply call_eq (f := 63) (fn := Try.f63) (by kernel_rfl) (by rfl)
  · exact placesF_v h _
  obtain ⟨wd, hwd⟩ := Int.eq_ofNat_of_zero_le (show 0 ≤ h.wide by have := V.w1; omega)
  obtain ⟨dp, hdp⟩ := Int.eq_ofNat_of_zero_le (show 0 ≤ h.deep by have := V.d1; omega)
  have w2 := V.w2
  have d2 := V.d2
  have w6 : wd ≤ 6 := by omega
  have d4 : dp ≤ 4 := by omega
  have hrows : placesL h = rowsOf dp wd := by rw [placesL, hwd, hdp]; rfl
  have q1 : ((l.length + 1) * 24 ≤ 140737488355328) = True := eq_true (by omega)
  simp (maxSteps := 1000000) only [VL, VM, ↓Gd_none, ↓Gd_t, ↓Gd_f, reduceIte, reduceCtorEq, Int.reduceLE, Int.reduceLT, Int.reduceToNat, Int.reduceNeg, Nat.reduceLT, Nat.reduceEqDiff, Nat.reduceAdd, Nat.reduceSub, Nat.reduceMul, Nat.reduceLeDiff]
  ((repeat refine W_seq ?_); refine W_block ?_)
  refine W_places rfl rfl h hwd hdp (by omega) (by omega) [(3, VV.ptr M.H.length 0), (4, VV.ptr (M.H.length + 1) 0), (5, VV.ptr (M.H.length + 2) 0), (9, VV.ptr (M.H.length + 3) 0)] (fun s : List Pl => M.H ++ [.obj (hallC h), .obj [pusV l], .obj [vi kind], .obj [.so (M.H.length + 4) 2 (s.map plP)], .clm s.length 2, .obj (hallC h)]) (fun i s => s = ((rowsOf dp wd).take i).filter fun c => allowedB h (l ++ [⟨c, kind⟩])) [] rfl (fun s => by simp) (by simp) (fun s => by rw [hget]; rfl) (by rfl) ⟨rfl, rfl, rfl, rfl, trivial⟩ (by kernel_rfl) ?_ ?_
  · intro o o' i c s junk hc hs
    dsimp only
    ((repeat refine W_seq ?_); refine W_region0 T_ok ?_)
    simp (maxSteps := 1000000) only [VL, VM, ↓Gd_none, ↓Gd_t, ↓Gd_f, reduceIte, reduceCtorEq, Int.reduceLE, Int.reduceLT, Int.reduceToNat, Int.reduceNeg, Nat.reduceLT, Nat.reduceEqDiff, Nat.reduceAdd, Nat.reduceSub, Nat.reduceMul, Nat.reduceLeDiff]
    refine ⟨junk ++ [.obj [vi c.x, vi c.y]], by simp, ?_⟩
    ((repeat refine W_seq ?_); refine W_block ?_)
    (repeat refine W_seq ?_)
    refine W_drawP T_ok [] (by kernel_rfl) (by kernel_rfl) ?_
    generalize hi : mkPlan _ = infs
    cbv at hi
    subst hi
    simp (maxSteps := 1000000) only [VL, VM, ↓Gd_none, ↓Gd_t, ↓Gd_f, reduceIte, reduceCtorEq, Int.reduceLE, Int.reduceLT, Int.reduceToNat, Int.reduceNeg, Nat.reduceLT, Nat.reduceEqDiff, Nat.reduceAdd, Nat.reduceSub, Nat.reduceMul, Nat.reduceLeDiff]
    apply callk_d (f := 67) (fn := Try.f67) (by kernel_rfl) (by rfl)
    · exact clone_v 3 _ _ (.inl rfl) (by rw [List.length_map]; omega)
    simp (maxSteps := 1000000) only [VL, VM, ↓Gd_none, ↓Gd_t, ↓Gd_f, reduceIte, reduceCtorEq, Int.reduceLE, Int.reduceLT, Int.reduceToNat, Int.reduceNeg, Nat.reduceLT, Nat.reduceEqDiff, Nat.reduceAdd, Nat.reduceSub, Nat.reduceMul, Nat.reduceLeDiff, q1]
    generalize hl2 : l ++ [⟨c, kind⟩] = l2
    have hmap : l.map puP ++ [[PV.int .i64 c.x, .int .i64 c.y, .int .i64 kind]] = l2.map puP := by rw [← hl2]; simp
    have hl2n : l2.length = l.length + 1 := by rw [← hl2]; simp
    rw [hmap]
    have hft := filter_take_succ (fun c => allowedB h (l ++ [⟨c, kind⟩])) hc
    simp only [hl2] at hft
    rw [← hs] at hft
    have hsl : s.length ≤ 24 := by
      have h1 := List.length_filter_le (fun c => allowedB h (l ++ [⟨c, kind⟩])) ((rowsOf dp wd).take i)
      rw [← hs] at h1
      have h2 := List.length_take_le i (rowsOf dp wd)
      rw [List.length_take] at h1
      have h3 : (rowsOf dp wd).length ≤ 24 := by
        rw [rowsOf_len]
        have : dp * wd ≤ 4 * 6 := Nat.mul_le_mul d4 w6
        omega
      omega
    have q2 : ((s.length + 1) * 16 ≤ 140737488355328) = True := eq_true (by omega)
    ((repeat refine W_seq ?_); refine W_region0 T_ok ?_)
    simp (maxSteps := 1000000) only [VL, VM, ↓Gd_none, ↓Gd_t, ↓Gd_f, reduceIte, reduceCtorEq, Int.reduceLE, Int.reduceLT, Int.reduceToNat, Int.reduceNeg, Nat.reduceLT, Nat.reduceEqDiff, Nat.reduceAdd, Nat.reduceSub, Nat.reduceMul, Nat.reduceLeDiff]
    apply call_eq (f := 68) (fn := Try.f68) (by kernel_rfl) (by rfl)
    · exact checklayout_vm h l2 _ V (by omega)
    by_cases e2 : layErr h l2 = 0
    rotate_left
    · have ea : allowedB h l2 = false := by unfold allowedB; rw [decide_eq_false e2]; rfl
      simp (maxSteps := 1000000) only [VL, VM, ↓Gd_none, ↓Gd_t, ↓Gd_f, reduceIte, reduceCtorEq, Int.reduceLE, Int.reduceLT, Int.reduceToNat, Int.reduceNeg, Nat.reduceLT, Nat.reduceEqDiff, Nat.reduceAdd, Nat.reduceSub, Nat.reduceMul, Nat.reduceLeDiff, e2]
      ((repeat refine W_seq ?_); refine W_cond (b := false) (by first | rfl | simp only [ev, get_cons, Nat.reduceEqDiff, if_true, if_false, reduceIte]) (fun h => by cases h) (fun _ => ?_))
      ((repeat refine W_seq ?_); refine W_skip ?_)
      simp only [blockQ]
      refine ⟨trivial, s, _, rfl, ?_⟩
      rw [hft, ea]; simp
    simp (maxSteps := 1000000) only [VL, VM, ↓Gd_none, ↓Gd_t, ↓Gd_f, reduceIte, reduceCtorEq, Int.reduceLE, Int.reduceLT, Int.reduceToNat, Int.reduceNeg, Nat.reduceLT, Nat.reduceEqDiff, Nat.reduceAdd, Nat.reduceSub, Nat.reduceMul, Nat.reduceLeDiff, e2]
    apply call_eq (f := 69) (fn := Try.f69) (by kernel_rfl) (by rfl)
    · exact bears_vm h l2 _ V (lay_good e2) (by omega)
    by_cases e3 : verdictOf h l2 = 1
    rotate_left
    · have ea : allowedB h l2 = false := by unfold allowedB; rw [decide_eq_false e3]; simp
      simp (maxSteps := 1000000) only [VL, VM, ↓Gd_none, ↓Gd_t, ↓Gd_f, reduceIte, reduceCtorEq, Int.reduceLE, Int.reduceLT, Int.reduceToNat, Int.reduceNeg, Nat.reduceLT, Nat.reduceEqDiff, Nat.reduceAdd, Nat.reduceSub, Nat.reduceMul, Nat.reduceLeDiff, e3]
      ((repeat refine W_seq ?_); refine W_cond (b := false) (by first | rfl | simp only [ev, get_cons, Nat.reduceEqDiff, if_true, if_false, reduceIte]) (fun h => by cases h) (fun _ => ?_))
      ((repeat refine W_seq ?_); refine W_skip ?_)
      simp only [blockQ]
      refine ⟨trivial, s, _, rfl, ?_⟩
      rw [hft, ea]; simp
    have ea : allowedB h l2 = true := by unfold allowedB; rw [decide_eq_true e2, decide_eq_true e3]; rfl
    simp (maxSteps := 1000000) only [VL, VM, ↓Gd_none, ↓Gd_t, ↓Gd_f, reduceIte, reduceCtorEq, Int.reduceLE, Int.reduceLT, Int.reduceToNat, Int.reduceNeg, Nat.reduceLT, Nat.reduceEqDiff, Nat.reduceAdd, Nat.reduceSub, Nat.reduceMul, Nat.reduceLeDiff, e3]
    ((repeat refine W_seq ?_); refine W_cond (b := true) (by first | rfl | simp only [ev, get_cons, Nat.reduceEqDiff, if_true, if_false, reduceIte]) (fun _ => ?_) (fun h => by cases h))
    ((repeat refine W_seq ?_); refine W_region0 T_ok ?_)
    simp (maxSteps := 1000000) only [VL, VM, ↓Gd_none, ↓Gd_t, ↓Gd_f, reduceIte, reduceCtorEq, Int.reduceLE, Int.reduceLT, Int.reduceToNat, Int.reduceNeg, Nat.reduceLT, Nat.reduceEqDiff, Nat.reduceAdd, Nat.reduceSub, Nat.reduceMul, Nat.reduceLeDiff, q2]
    refine ⟨s ++ [c], junk ++ [.obj [vi c.x, vi c.y], .clm (l.length + 1) 3], ?_, by rw [hft, ea]; rfl⟩
    rw [addLg_has (by simp)]
    simp
  · intro o s hs
    simp only [thenQ, blockQ]
    ((repeat refine W_seq ?_); refine W_region0 T_ok ?_)
    simp (maxSteps := 1000000) only [VL, VM, ↓Gd_none, ↓Gd_t, ↓Gd_f, reduceIte, reduceCtorEq, Int.reduceLE, Int.reduceLT, Int.reduceToNat, Int.reduceNeg, Nat.reduceLT, Nat.reduceEqDiff, Nat.reduceAdd, Nat.reduceSub, Nat.reduceMul, Nat.reduceLeDiff]
    rw [List.take_of_length_le (by rw [rowsOf_len]; exact Nat.le_refl _), ← hrows] at hs
    subst hs
    (repeat refine W_seq ?_)
    refine W_ret ?_
    try simp only [thenQ, blockQ]
    refine ownK_ret (L' := _) (X := [(M.H.length + 3, M.H.length + 4)]) (by simp) (vkill_one (j := 6) rfl) rfl ?_ ?_
    · exact ⟨rfl, by simp [get_cons, frz, frzL, vtup, roomR, roomErr, e, hkd, roomL]⟩
    · simp [get_cons, frz, frzL, vtup, refs, refsL]
end Go.Proofs.Ytijcmgfblpokhaa.Vm

/- The law of room, on values. (Vm) -/
namespace Go.Proofs.Ytijcmgfblpokhaa.Vm
open Go Go.Proofs
def gridL (dp wd : Nat) : List Pl := (List.range (dp + 2)).flatMap fun y : Nat => (List.range (wd + 2)).map fun x : Nat => ⟨(x : Int) - 1, (y : Int) - 1⟩
theorem gridL_len (dp wd : Nat) : (gridL dp wd).length = (dp + 2) * (wd + 2) := by
  have : ∀ n, ((List.range n).flatMap fun y : Nat => (List.range (wd + 2)).map fun x : Nat => (⟨(x : Int) - 1, (y : Int) - 1⟩ : Pl)).length = n * (wd + 2) := by
    intro n
    induction n with
    | zero => simp
    | succ n ih => rw [show List.range (n + 1) = List.range n ++ [n] from List.range_succ, List.flatMap_append, List.length_append, ih, Nat.succ_mul]; simp
  exact this _
theorem gridL_get {dp wd y x : Nat} (hy : y < dp + 2) (hx : x < wd + 2) : (gridL dp wd)[y * (wd + 2) + x]? = some ⟨(x : Int) - 1, (y : Int) - 1⟩ := by
  have hlen : ∀ n, ((List.range n).flatMap fun y : Nat => (List.range (wd + 2)).map fun x : Nat => (⟨(x : Int) - 1, (y : Int) - 1⟩ : Pl)).length = n * (wd + 2) := by
    intro n
    induction n with
    | zero => simp
    | succ n ih => rw [show List.range (n + 1) = List.range n ++ [n] from List.range_succ, List.flatMap_append, List.length_append, ih, Nat.succ_mul]; simp
  have : ∀ n, y < n → ((List.range n).flatMap fun y : Nat => (List.range (wd + 2)).map fun x : Nat => (⟨(x : Int) - 1, (y : Int) - 1⟩ : Pl))[y * (wd + 2) + x]? = some ⟨(x : Int) - 1, (y : Int) - 1⟩ := by
    intro n
    induction n with
    | zero => intro h; omega
    | succ n ih =>
      intro h
      rw [show List.range (n + 1) = List.range n ++ [n] from List.range_succ, List.flatMap_append]
      rcases Nat.lt_or_ge y n with h1 | h1
      · have h2 : y * (wd + 2) + (wd + 2) ≤ n * (wd + 2) := by
          have := Nat.mul_le_mul_right (wd + 2) (show y + 1 ≤ n by omega)
          rwa [Nat.succ_mul] at this
        rw [List.getElem?_append_left (by rw [hlen]; omega)]
        exact ih h1
      · obtain rfl : y = n := by omega
        rw [List.getElem?_append_right (by rw [hlen]; omega), hlen, Nat.add_sub_cancel_left]
        simp [hx]
  exact this _ hy
theorem filter_none {α : Type} {p : α → Bool} : ∀ {l : List α}, (∀ x ∈ l, p x = false) → l.filter p = []
  | [], _ => rfl
  | x :: l, h => by
    rw [List.filter_cons, h x (List.mem_cons_self ..)]
    simpa using fun y hy => h y (List.mem_cons_of_mem _ hy)
theorem flatMap_same {α β : Type} {f g : α → List β} : ∀ {l : List α}, (∀ x ∈ l, f x = g x) → l.flatMap f = l.flatMap g
  | [], _ => rfl
  | x :: l, h => by
    rw [List.flatMap_cons, List.flatMap_cons, h x (List.mem_cons_self ..), flatMap_same fun y hy => h y (List.mem_cons_of_mem _ hy)]
theorem range_ends (n : Nat) : List.range (n + 2) = 0 :: ((List.range n).map Nat.succ ++ [n + 1]) := by
  rw [List.range_succ_eq_map, List.range_succ, List.map_append]; rfl
theorem grid_filter (dp wd : Nat) (p : Pl → Bool) (hp : ∀ c, p c = true → 0 ≤ c.x ∧ c.x < wd ∧ 0 ≤ c.y ∧ c.y < dp) : (gridL dp wd).filter p = (rowsOf dp wd).filter p := by
  have hrow : ∀ y : Int, ((List.range (wd + 2)).map fun x : Nat => (⟨(x : Int) - 1, y⟩ : Pl)).filter p = ((List.range wd).map fun x : Nat => (⟨(x : Int), y⟩ : Pl)).filter p := by
    intro y
    rw [range_ends, List.map_cons, List.map_append, List.filter_cons, List.filter_append]
    have h1 : p ⟨((0 : Nat) : Int) - 1, y⟩ = false := by
      cases h : p ⟨((0 : Nat) : Int) - 1, y⟩ with
      | false => rfl
      | true => have := (hp _ h).1; simp at this
    have h2 : p ⟨((wd + 1 : Nat) : Int) - 1, y⟩ = false := by
      cases h : p ⟨((wd + 1 : Nat) : Int) - 1, y⟩ with
      | false => rfl
      | true => have := (hp _ h).2.1; simp at this
    rw [h1]
    simp only [Bool.false_eq_true, if_false, List.map_map, List.map_cons, List.map_nil, Function.comp_def]
    have h3 : ([(⟨((wd + 1 : Nat) : Int) - 1, y⟩ : Pl)] : List Pl).filter p = [] := by
      rw [List.filter_cons, h2]; rfl
    rw [h3, List.append_nil]
    congr 1
    apply List.map_congr_left
    intro x _
    simp
  have hout : ∀ y : Int, (y < 0 ∨ (dp : Int) ≤ y) → ((List.range (wd + 2)).map fun x : Nat => (⟨(x : Int) - 1, y⟩ : Pl)).filter p = [] := by
    intro y hy
    refine filter_none fun c hc => ?_
    obtain ⟨x, _, rfl⟩ := List.mem_map.1 hc
    cases h : p ⟨(x : Int) - 1, y⟩ with
    | false => rfl
    | true => have := hp _ h; simp only at this; omega
  unfold gridL rowsOf rowOf
  rw [List.filter_flatMap, List.filter_flatMap, range_ends dp, List.flatMap_cons, List.flatMap_append]
  rw [hout _ (by simp)]
  simp only [List.map_cons, List.map_nil, List.flatMap_cons, List.flatMap_nil, List.append_nil, List.nil_append]
  rw [hout _ (by right; simp), List.append_nil, List.flatMap_map]
  refine flatMap_same fun y _ => ?_
  rw [show ((Nat.succ y : Nat) : Int) - 1 = (y : Int) by simp]
  exact hrow y
theorem filter_at {α : Type} (p : α → Bool) : ∀ {l : List α} {i : Nat} {c : α}, l[i]? = some c → p c = true → (l.filter p)[((l.take i).filter p).length]? = some c
  | [], i, c, h, _ => by simp at h
  | x :: l, 0, c, h, hp => by
    simp at h
    subst h
    simp [hp]
  | x :: l, i + 1, c, h, hp => by
    have := filter_at p (l := l) (i := i) (c := c) (by simpa using h) hp
    rw [List.take_succ_cons, List.filter_cons, List.filter_cons]
    split
    · simpa using this
    · exact this
theorem at_law_v (k x y : Int) (M : Mem) : VC Try.prog 53 [vi k, vi x, vi y] M (fun r M' => M' = M ∧ r = puV ⟨⟨x, y⟩, k⟩) := by
  refine VC_own' T_ok (f := 53) (fn := Try.f53) (by kernel_rfl) rfl Try.ntmps53 (by rfl) (by rfl) ?_
  ((repeat refine W_seq ?_); refine W_region0 T_ok ?_)
  simp (maxSteps := 1000000) only [VL, VM, ↓Gd_none, ↓Gd_t, ↓Gd_f, reduceIte, reduceCtorEq, Int.reduceLE, Int.reduceLT, Int.reduceToNat, Int.reduceNeg, Nat.reduceLT, Nat.reduceEqDiff, Nat.reduceAdd, Nat.reduceSub, Nat.reduceMul, Nat.reduceLeDiff]
  ((repeat refine W_seq ?_); refine W_region0 T_ok ?_)
  simp (maxSteps := 1000000) only [VL, VM, ↓Gd_none, ↓Gd_t, ↓Gd_f, reduceIte, reduceCtorEq, Int.reduceLE, Int.reduceLT, Int.reduceToNat, Int.reduceNeg, Nat.reduceLT, Nat.reduceEqDiff, Nat.reduceAdd, Nat.reduceSub, Nat.reduceMul, Nat.reduceLeDiff]
  (repeat refine W_seq ?_)
  refine W_ret ?_
  try simp only [thenQ, blockQ]
  refine own_ret (vs := [puV ⟨⟨x, y⟩, k⟩]) ?_ rfl ?_ ⟨rfl, rfl⟩
  · show vresL T _ _ [.cell 6 59] = _
    simp (maxSteps := 1000000) only [VL, VM, ↓Gd_none, ↓Gd_t, ↓Gd_f, reduceIte, reduceCtorEq, Int.reduceLE, Int.reduceLT, Int.reduceToNat, Int.reduceNeg, Nat.reduceLT, Nat.reduceEqDiff, Nat.reduceAdd, Nat.reduceSub, Nat.reduceMul, Nat.reduceLeDiff, vresL]
  · rfl
set_option maxHeartbeats 2000000 in
set_option maxRecDepth 100000 in
theorem room_law_v (awake : ∀ M, VC Try.prog 15 [] M (fun r M' => M' = M ∧ r = vb true)) (xs : List Int) (M : Mem) (hl : xs.length ≤ maxLen) : VC Try.prog 12 [intsV xs] M (fun r M' => M' = M ∧ r = vb true) := by
  refine VC_own' T_ok (f := 12) (fn := Try.f12) (by kernel_rfl) rfl Try.ntmps12 (by rfl) (by rfl) ?_
  ((repeat refine W_seq ?_); refine W_region0 T_ok ?_)
  simp (maxSteps := 1000000) only [VL, VM, ↓Gd_none, ↓Gd_t, ↓Gd_f, reduceIte, reduceCtorEq, Int.reduceLE, Int.reduceLT, Int.reduceToNat, Int.reduceNeg, Nat.reduceLT, Nat.reduceEqDiff, Nat.reduceAdd, Nat.reduceSub, Nat.reduceMul, Nat.reduceLeDiff]
  ((repeat refine W_seq ?_); refine W_region0 T_ok ?_)
  simp (maxSteps := 1000000) only [VL, VM, ↓Gd_none, ↓Gd_t, ↓Gd_f, reduceIte, reduceCtorEq, Int.reduceLE, Int.reduceLT, Int.reduceToNat, Int.reduceNeg, Nat.reduceLT, Nat.reduceEqDiff, Nat.reduceAdd, Nat.reduceSub, Nat.reduceMul, Nat.reduceLeDiff]
  apply call_eq (f := 17) (fn := Try.f17) (by kernel_rfl) (by rfl)
  · exact dieOf_v xs M hl
  obtain ⟨H0, hH0⟩ : ∃ H0, H0 = M.H ++ [VObj.dead] := ⟨_, rfl⟩
  obtain ⟨d, hdd⟩ : ∃ d, d = M.H.length := ⟨_, rfl⟩
  have hd : d < H0.length := by rw [hH0, hdd]; simp
  have hlen0 : H0.length = M.H.length + 1 := by rw [hH0]; simp
  rw [← hH0, ← hdd]
  have tail : ∀ u L, DH H0 d u L = M.H ++ (.obj [uv u] :: L) := fun u L => by rw [hH0, hdd]; exact DH_tail M u L
  generalize dieU xs = u0
  simp (maxSteps := 1000000) only [VL, VM, ↓Gd_none, ↓Gd_t, ↓Gd_f, reduceIte, reduceCtorEq, Int.reduceLE, Int.reduceLT, Int.reduceToNat, Int.reduceNeg, Nat.reduceLT, Nat.reduceEqDiff, Nat.reduceAdd, Nat.reduceSub, Nat.reduceMul, Nat.reduceLeDiff]
  ((repeat refine W_seq ?_); refine W_region0 T_ok ?_)
  simp (maxSteps := 1000000) only [VL, VM, ↓Gd_none, ↓Gd_t, ↓Gd_f, reduceIte, reduceCtorEq, Int.reduceLE, Int.reduceLT, Int.reduceToNat, Int.reduceNeg, Nat.reduceLT, Nat.reduceEqDiff, Nat.reduceAdd, Nat.reduceSub, Nat.reduceMul, Nat.reduceLeDiff]
  refine fn_call (f := 16) (fn := Try.f16) (by kernel_rfl) (by rfl) ?_
  refine (hallOf_v hd u0 M.lg 4 3 3 (by omega) (by omega) (by omega)).mono ?_
  rintro _ _ ⟨h, u1, wd, dp, rfl, rfl, hG, hW, hD, hN⟩
  have hv := hG.ok
  have V := VH.of hv
  have F := hG.fin
  have hwd := hG.w
  have hdp := hG.d
  simp (maxSteps := 1000000) only [VL, VM, ↓Gd_none, ↓Gd_t, ↓Gd_f, reduceIte, reduceCtorEq, Int.reduceLE, Int.reduceLT, Int.reduceToNat, Int.reduceNeg, Nat.reduceLT, Nat.reduceEqDiff, Nat.reduceAdd, Nat.reduceSub, Nat.reduceMul, Nat.reduceLeDiff, DH_app hd, DH_len, DH_len0, DH_get hd, DH_get0 hd, DH_set hd, DH_set0 hd, DH_setd, DH_die hd]
  ((repeat refine W_seq ?_); refine W_region0 T_ok ?_)
  simp (maxSteps := 1000000) only [VL, VM, ↓Gd_none, ↓Gd_t, ↓Gd_f, reduceIte, reduceCtorEq, Int.reduceLE, Int.reduceLT, Int.reduceToNat, Int.reduceNeg, Nat.reduceLT, Nat.reduceEqDiff, Nat.reduceAdd, Nat.reduceSub, Nat.reduceMul, Nat.reduceLeDiff, DH_app hd, DH_len, DH_len0, DH_get hd, DH_get0 hd, DH_set hd, DH_set0 hd, DH_setd, DH_die hd]
  refine fn_call (f := 23) (fn := Try.f23) (by kernel_rfl) (by rfl) ?_
  rw [DH_base]
  refine (layoutOf_v (by rw [List.length_append]; omega) u1 M.lg h 5 V F (by omega) hv).mono ?_
  rintro _ _ ⟨l, u2, rfl, rfl, hle, hlm⟩
  rw [← DH_base]
  have hlen := lay_len hle
  have hle2 : layoutErr h l = 0 := layout_ok.2 ⟨hv, hle⟩
  have hk6 := V.kinds6
  have hk0 := V.kinds0
  have hcr := castF_range (u := u2) (n := (h.kinds.length : Int)) (by omega)
  simp (maxSteps := 1000000) only [VL, VM, ↓Gd_none, ↓Gd_t, ↓Gd_f, reduceIte, reduceCtorEq, Int.reduceLE, Int.reduceLT, Int.reduceToNat, Int.reduceNeg, Nat.reduceLT, Nat.reduceEqDiff, Nat.reduceAdd, Nat.reduceSub, Nat.reduceMul, Nat.reduceLeDiff]
  ((repeat refine W_seq ?_); refine W_region0 T_ok ?_)
  simp (maxSteps := 1000000) only [VL, VM, ↓Gd_none, ↓Gd_t, ↓Gd_f, reduceIte, reduceCtorEq, Int.reduceLE, Int.reduceLT, Int.reduceToNat, Int.reduceNeg, Nat.reduceLT, Nat.reduceEqDiff, Nat.reduceAdd, Nat.reduceSub, Nat.reduceMul, Nat.reduceLeDiff, DH_app hd, DH_len, DH_len0, DH_get hd, DH_get0 hd, DH_set hd, DH_set0 hd, DH_setd, DH_die hd]
  apply call_eq (f := 45) (fn := Try.f45) (by kernel_rfl) (by rfl)
  · exact cast_c hd u2 (h.kinds.length : Int) M.lg (by omega)
  simp (maxSteps := 1000000) only [VL, VM, ↓Gd_none, ↓Gd_t, ↓Gd_f, reduceIte, reduceCtorEq, Int.reduceLE, Int.reduceLT, Int.reduceToNat, Int.reduceNeg, Nat.reduceLT, Nat.reduceEqDiff, Nat.reduceAdd, Nat.reduceSub, Nat.reduceMul, Nat.reduceLeDiff, DH_app hd, DH_len, DH_len0, DH_get hd, DH_get0 hd, DH_set hd, DH_set0 hd, DH_setd, DH_die hd]
  rw [tail, hlen0]
  have hisk : isKind h (castF u2 (h.kinds.length : Int)) = true := by
    unfold isKind
    rw [inR_true]; omega
  generalize castF u2 (h.kinds.length : Int) = kind at hisk hcr
  generalize castU u2 (h.kinds.length : Int) = u3
  have hre : roomErr h l kind = 0 := by unfold roomErr; rw [if_neg (by simp [hle2]), if_pos hisk]
  ((repeat refine W_seq ?_); refine W_region0 T_ok ?_)
  simp (maxSteps := 1000000) only [VL, VM, ↓Gd_none, ↓Gd_t, ↓Gd_f, reduceIte, reduceCtorEq, Int.reduceLE, Int.reduceLT, Int.reduceToNat, Int.reduceNeg, Nat.reduceLT, Nat.reduceEqDiff, Nat.reduceAdd, Nat.reduceSub, Nat.reduceMul, Nat.reduceLeDiff]
  apply call_eq (f := 50) (fn := Try.f50) (by kernel_rfl) (by rfl)
  · exact room_vm h l kind _ F (by omega)
  rw [show roomR h l kind = plsV (roomL h l kind) from if_pos hre, hre]
  simp (maxSteps := 1000000) only [VL, VM, ↓Gd_none, ↓Gd_t, ↓Gd_f, reduceIte, reduceCtorEq, Int.reduceLE, Int.reduceLT, Int.reduceToNat, Int.reduceNeg, Nat.reduceLT, Nat.reduceEqDiff, Nat.reduceAdd, Nat.reduceSub, Nat.reduceMul, Nat.reduceLeDiff]
  ((repeat refine W_seq ?_); refine W_region0 T_ok ?_)
  simp (maxSteps := 1000000) only [VL, VM, ↓Gd_none, ↓Gd_t, ↓Gd_f, reduceIte, reduceCtorEq, Int.reduceLE, Int.reduceLT, Int.reduceToNat, Int.reduceNeg, Nat.reduceLT, Nat.reduceEqDiff, Nat.reduceAdd, Nat.reduceSub, Nat.reduceMul, Nat.reduceLeDiff, eq_self, decide_true, Bool.not_true]
  ((repeat refine W_seq ?_); refine W_cond (b := false) (by first | rfl | simp only [ev, get_cons, Nat.reduceEqDiff, if_true, if_false, reduceIte]) (fun h => by cases h) (fun _ => ?_))
  ((repeat refine W_seq ?_); refine W_skip ?_)
  simp (maxSteps := 1000000) only [VL, VM, ↓Gd_none, ↓Gd_t, ↓Gd_f, reduceIte, reduceCtorEq, Int.reduceLE, Int.reduceLT, Int.reduceToNat, Int.reduceNeg, Nat.reduceLT, Nat.reduceEqDiff, Nat.reduceAdd, Nat.reduceSub, Nat.reduceMul, Nat.reduceLeDiff]
  ((repeat refine W_seq ?_); refine W_region0 T_ok ?_)
  simp (maxSteps := 1000000) only [VL, VM, ↓Gd_none, ↓Gd_t, ↓Gd_f, reduceIte, reduceCtorEq, Int.reduceLE, Int.reduceLT, Int.reduceToNat, Int.reduceNeg, Nat.reduceLT, Nat.reduceEqDiff, Nat.reduceAdd, Nat.reduceSub, Nat.reduceMul, Nat.reduceLeDiff]
  ((repeat refine W_seq ?_); refine W_region0 T_ok ?_)
  simp (maxSteps := 1000000) only [VL, VM, ↓Gd_none, ↓Gd_t, ↓Gd_f, reduceIte, reduceCtorEq, Int.reduceLE, Int.reduceLT, Int.reduceToNat, Int.reduceNeg, Nat.reduceLT, Nat.reduceEqDiff, Nat.reduceAdd, Nat.reduceSub, Nat.reduceMul, Nat.reduceLeDiff]
  have w2 := V.w2
  have d2 := V.d2
  have w6 : wd ≤ 6 := by omega
  have d4 : dp ≤ 4 := by omega
  have hrows : placesL h = rowsOf dp wd := by rw [placesL, hwd, hdp]; rfl
  have hgrid : (gridL dp wd).filter (fun c => allowedB h (l ++ [⟨c, kind⟩])) = roomL h l kind := by
    unfold roomL
    rw [hrows]
    refine grid_filter dp wd _ fun c hc => ?_
    have hg := (allowedB_iff.1 hc).1.good ⟨c, kind⟩ (by simp)
    have := hg.1
    unfold isPl at this
    simp only [Bool.and_eq_true, inR_true] at this
    omega
  obtain ⟨met, hmet⟩ : ∃ met : Nat → Nat, met = fun i => (((gridL dp wd).take i).filter fun c => allowedB h (l ++ [⟨c, kind⟩])).length := ⟨_, rfl⟩
  have met0 : met 0 = 0 := by rw [hmet]; rfl
  have metE : met ((dp + 2) * (wd + 2)) = (roomL h l kind).length := by
    rw [hmet, ← hgrid]
    simp only
    rw [List.take_of_length_le (by rw [gridL_len]; exact Nat.le_refl _)]
  have metS : ∀ i c, (gridL dp wd)[i]? = some c → met (i + 1) = met i + if allowedB h (l ++ [⟨c, kind⟩]) then 1 else 0 := by
    intro i c hc
    rw [hmet]
    simp only
    have h1 := filter_take_succ (fun c : Pl => allowedB h (l ++ [(⟨c, kind⟩ : Pu)])) hc
    rw [h1, List.length_append]
    split <;> rfl
  have metA : ∀ i c, (gridL dp wd)[i]? = some c → allowedB h (l ++ [⟨c, kind⟩]) = true → (roomL h l kind)[met i]? = some c := by
    intro i c hc ha
    rw [hmet, ← hgrid]
    exact filter_at (fun c => allowedB h (l ++ [⟨c, kind⟩])) hc ha
  have metB : ∀ i, met i ≤ 48 := by
    intro i
    rw [hmet]
    have h1 := List.length_filter_le (fun c : Pl => allowedB h (l ++ [(⟨c, kind⟩ : Pu)])) ((gridL dp wd).take i)
    have h2 := gridL_len dp wd
    have h3 : (dp + 2) * (wd + 2) ≤ 6 * 8 := Nat.mul_le_mul (by omega) (by omega)
    rw [List.length_take] at h1
    simp only
    omega
  generalize roomL h l kind = room at metE metA
  clear hgrid hmet
  have hws : h.wide = (wd : Int) := hwd
  have hds : h.deep = (dp : Int) := hdp
  ((repeat refine W_seq ?_); refine W_block ?_; (repeat refine W_seq ?_)); refine W_loopS (fun s : Nat × List VObj => [(4, .ptr (M.H.length + 1) 0), (5, pusV l), (6, vi kind), (7, plsV room), (9, vi (met (s.1 * (wd + 2)))), (10, vi ((s.1 : Int) - 1))]) (fun s => ⟨M.H ++ (VObj.obj [uv u3] :: VObj.obj (hallC h) :: s.2), M.lg⟩) (fun s => dp + 2 - s.1) (fun s => s.1 ≤ dp + 2) (0, []) (Nat.zero_le _) ⟨rfl, rfl, rfl, rfl, by simp only [Nat.zero_mul, met0]; rfl, rfl, trivial⟩ rfl ?_
  rintro ⟨yi, junk⟩ hy
  simp only at hy
  have y1 : -9223372036854775808 ≤ (yi : Int) - 1 + 1 ∧ (yi : Int) - 1 + 1 < 9223372036854775808 := by omega
  ((repeat refine W_seq ?_); refine W_region0 T_ok ?_)
  rcases Nat.lt_or_ge yi (dp + 2) with hlt | hge
  rotate_left
  · have k2 : ((yi : Int) - 1 ≤ (dp : Int)) = False := eq_false (by omega)
    obtain rfl : yi = dp + 2 := by omega
    simp (maxSteps := 1000000) only [VL, VM, ↓Gd_none, ↓Gd_t, ↓Gd_f, reduceIte, reduceCtorEq, Int.reduceLE, Int.reduceLT, Int.reduceToNat, Int.reduceNeg, Nat.reduceLT, Nat.reduceEqDiff, Nat.reduceAdd, Nat.reduceSub, Nat.reduceMul, Nat.reduceLeDiff, hds, k2]
    ((repeat refine W_seq ?_); refine W_cond (b := false) (by first | rfl | simp only [ev, get_cons, Nat.reduceEqDiff, if_true, if_false, reduceIte]) (fun h => by cases h) (fun _ => ?_))
    ((repeat refine W_seq ?_); refine W_exit ?_)
    simp (maxSteps := 1000000) only [VL, VM, ↓Gd_none, ↓Gd_t, ↓Gd_f, reduceIte, reduceCtorEq, Int.reduceLE, Int.reduceLT, Int.reduceToNat, Int.reduceNeg, Nat.reduceLT, Nat.reduceEqDiff, Nat.reduceAdd, Nat.reduceSub, Nat.reduceMul, Nat.reduceLeDiff]
    rw [metE]
    ((repeat refine W_seq ?_); refine W_region0 T_ok ?_)
    simp (maxSteps := 1000000) only [VL, VM, ↓Gd_none, ↓Gd_t, ↓Gd_f, reduceIte, reduceCtorEq, Int.reduceLE, Int.reduceLT, Int.reduceToNat, Int.reduceNeg, Nat.reduceLT, Nat.reduceEqDiff, Nat.reduceAdd, Nat.reduceSub, Nat.reduceMul, Nat.reduceLeDiff, eq_self, decide_true]
    apply call_eq (f := 15) (fn := Try.f15) (by kernel_rfl) (by rfl)
    · exact awake _
    simp (maxSteps := 1000000) only [VL, VM, ↓Gd_none, ↓Gd_t, ↓Gd_f, reduceIte, reduceCtorEq, Int.reduceLE, Int.reduceLT, Int.reduceToNat, Int.reduceNeg, Nat.reduceLT, Nat.reduceEqDiff, Nat.reduceAdd, Nat.reduceSub, Nat.reduceMul, Nat.reduceLeDiff]
    (repeat refine W_seq ?_)
    refine W_ret ?_
    try simp only [thenQ, blockQ]
    refine own_ret1 rfl ?_ (by rfl)
    simp only [get_cons, frz, vtup, Nat.reduceEqDiff, if_true, if_false, reduceIte]
  have k2 : ((yi : Int) - 1 ≤ (dp : Int)) = True := eq_true (by omega)
  simp (maxSteps := 1000000) only [VL, VM, ↓Gd_none, ↓Gd_t, ↓Gd_f, reduceIte, reduceCtorEq, Int.reduceLE, Int.reduceLT, Int.reduceToNat, Int.reduceNeg, Nat.reduceLT, Nat.reduceEqDiff, Nat.reduceAdd, Nat.reduceSub, Nat.reduceMul, Nat.reduceLeDiff, hds, k2]
  ((repeat refine W_seq ?_); refine W_cond (b := true) (by first | rfl | simp only [ev, get_cons, Nat.reduceEqDiff, if_true, if_false, reduceIte]) (fun _ => ?_) (fun h => by cases h))
  ((repeat refine W_seq ?_); refine W_skip ?_)
  simp (maxSteps := 1000000) only [VL, VM, ↓Gd_none, ↓Gd_t, ↓Gd_f, reduceIte, reduceCtorEq, Int.reduceLE, Int.reduceLT, Int.reduceToNat, Int.reduceNeg, Nat.reduceLT, Nat.reduceEqDiff, Nat.reduceAdd, Nat.reduceSub, Nat.reduceMul, Nat.reduceLeDiff]
  ((repeat refine W_seq ?_); refine W_block ?_)
  ((repeat refine W_seq ?_); refine W_region0 T_ok ?_)
  simp (maxSteps := 1000000) only [VL, VM, ↓Gd_none, ↓Gd_t, ↓Gd_f, reduceIte, reduceCtorEq, Int.reduceLE, Int.reduceLT, Int.reduceToNat, Int.reduceNeg, Nat.reduceLT, Nat.reduceEqDiff, Nat.reduceAdd, Nat.reduceSub, Nat.reduceMul, Nat.reduceLeDiff]
  ((repeat refine W_seq ?_); refine W_block ?_; (repeat refine W_seq ?_)); refine W_loopS (fun s : Nat × List VObj => [(4, .ptr (M.H.length + 1) 0), (5, pusV l), (6, vi kind), (7, plsV room), (9, vi (met (yi * (wd + 2) + s.1))), (10, vi ((yi : Int) - 1)), (11, vi ((s.1 : Int) - 1))]) (fun s => ⟨M.H ++ (VObj.obj [uv u3] :: VObj.obj (hallC h) :: s.2), M.lg⟩) (fun s => wd + 2 - s.1) (fun s => s.1 ≤ wd + 2) (0, junk) (Nat.zero_le _) ⟨rfl, rfl, rfl, rfl, rfl, rfl, rfl, trivial⟩ rfl ?_
  rintro ⟨xi, junk⟩ hx
  simp only at hx
  have x1 : -9223372036854775808 ≤ (xi : Int) - 1 + 1 ∧ (xi : Int) - 1 + 1 < 9223372036854775808 := by omega
  ((repeat refine W_seq ?_); refine W_region0 T_ok ?_)
  rcases Nat.lt_or_ge xi (wd + 2) with hlx | hgx
  rotate_left
  · have k3 : ((xi : Int) - 1 ≤ (wd : Int)) = False := eq_false (by omega)
    obtain rfl : xi = wd + 2 := by omega
    simp (maxSteps := 1000000) only [VL, VM, ↓Gd_none, ↓Gd_t, ↓Gd_f, reduceIte, reduceCtorEq, Int.reduceLE, Int.reduceLT, Int.reduceToNat, Int.reduceNeg, Nat.reduceLT, Nat.reduceEqDiff, Nat.reduceAdd, Nat.reduceSub, Nat.reduceMul, Nat.reduceLeDiff, hws, k3]
    ((repeat refine W_seq ?_); refine W_cond (b := false) (by first | rfl | simp only [ev, get_cons, Nat.reduceEqDiff, if_true, if_false, reduceIte]) (fun h => by cases h) (fun _ => ?_))
    ((repeat refine W_seq ?_); refine W_exit ?_)
    simp (maxSteps := 1000000) only [VL, VM, ↓Gd_none, ↓Gd_t, ↓Gd_f, reduceIte, reduceCtorEq, Int.reduceLE, Int.reduceLT, Int.reduceToNat, Int.reduceNeg, Nat.reduceLT, Nat.reduceEqDiff, Nat.reduceAdd, Nat.reduceSub, Nat.reduceMul, Nat.reduceLeDiff]
    ((repeat refine W_seq ?_); refine W_region0 T_ok ?_)
    simp (maxSteps := 1000000) only [VL, VM, ↓Gd_none, ↓Gd_t, ↓Gd_f, reduceIte, reduceCtorEq, Int.reduceLE, Int.reduceLT, Int.reduceToNat, Int.reduceNeg, Nat.reduceLT, Nat.reduceEqDiff, Nat.reduceAdd, Nat.reduceSub, Nat.reduceMul, Nat.reduceLeDiff, y1]
    refine LoopK.mk (yi + 1, junk) (by simp only; omega) (by simp only; omega) ⟨rfl, rfl, rfl, rfl, ?_, ?_, trivial⟩ rfl
    · simp only [get_cons, Nat.reduceEqDiff, if_true, if_false, reduceIte, Nat.succ_mul]
    · simp only [get_cons, Nat.reduceEqDiff, if_true, if_false, reduceIte]
      congr 3
      omega
  have k3 : ((xi : Int) - 1 ≤ (wd : Int)) = True := eq_true (by omega)
  have hc := gridL_get (dp := dp) (wd := wd) hlt hlx
  have hms := metS _ _ hc
  have hma := metA _ _ hc
  have hmb : met (yi * (wd + 2) + xi) ≤ 48 := metB _
  generalize hcc : (⟨(xi : Int) - 1, (yi : Int) - 1⟩ : Pl) = c at hms hma
  have hcx : (xi : Int) - 1 = c.x := by rw [← hcc]
  have hcy : (yi : Int) - 1 = c.y := by rw [← hcc]
  generalize hl2 : l ++ [⟨c, kind⟩] = l2 at hms hma
  have hmap : l.map puP ++ [[PV.int .i64 c.x, .int .i64 c.y, .int .i64 kind]] = l2.map puP := by rw [← hl2]; simp
  have hl2n : l2.length = l.length + 1 := by rw [← hl2]; simp
  have q1 : ((l.length + 1) * 24 ≤ 140737488355328) = True := eq_true (by omega)
  simp (maxSteps := 1000000) only [VL, VM, ↓Gd_none, ↓Gd_t, ↓Gd_f, reduceIte, reduceCtorEq, Int.reduceLE, Int.reduceLT, Int.reduceToNat, Int.reduceNeg, Nat.reduceLT, Nat.reduceEqDiff, Nat.reduceAdd, Nat.reduceSub, Nat.reduceMul, Nat.reduceLeDiff, hws, k3]
  ((repeat refine W_seq ?_); refine W_cond (b := true) (by first | rfl | simp only [ev, get_cons, Nat.reduceEqDiff, if_true, if_false, reduceIte]) (fun _ => ?_) (fun h => by cases h))
  ((repeat refine W_seq ?_); refine W_skip ?_)
  simp (maxSteps := 1000000) only [VL, VM, ↓Gd_none, ↓Gd_t, ↓Gd_f, reduceIte, reduceCtorEq, Int.reduceLE, Int.reduceLT, Int.reduceToNat, Int.reduceNeg, Nat.reduceLT, Nat.reduceEqDiff, Nat.reduceAdd, Nat.reduceSub, Nat.reduceMul, Nat.reduceLeDiff]
  ((repeat refine W_seq ?_); refine W_block ?_)
  ((repeat refine W_seq ?_); refine W_region0 T_ok ?_)
  simp (maxSteps := 1000000) only [VL, VM, ↓Gd_none, ↓Gd_t, ↓Gd_f, reduceIte, reduceCtorEq, Int.reduceLE, Int.reduceLT, Int.reduceToNat, Int.reduceNeg, Nat.reduceLT, Nat.reduceEqDiff, Nat.reduceAdd, Nat.reduceSub, Nat.reduceMul, Nat.reduceLeDiff]
  apply callk_eq (f := 31) (fn := Try.f31) (by kernel_rfl) (by rfl)
  · exact copyLayout_v _ l _ (by omega) rfl
  simp (maxSteps := 1000000) only [VL, VM, ↓Gd_none, ↓Gd_t, ↓Gd_f, reduceIte, reduceCtorEq, Int.reduceLE, Int.reduceLT, Int.reduceToNat, Int.reduceNeg, Nat.reduceLT, Nat.reduceEqDiff, Nat.reduceAdd, Nat.reduceSub, Nat.reduceMul, Nat.reduceLeDiff]
  apply call_eq (f := 53) (fn := Try.f53) (by kernel_rfl) (by rfl)
  · exact at_law_v _ _ _ _
  simp (maxSteps := 1000000) only [VL, VM, ↓Gd_none, ↓Gd_t, ↓Gd_f, reduceIte, reduceCtorEq, Int.reduceLE, Int.reduceLT, Int.reduceToNat, Int.reduceNeg, Nat.reduceLT, Nat.reduceEqDiff, Nat.reduceAdd, Nat.reduceSub, Nat.reduceMul, Nat.reduceLeDiff, q1, hcx, hcy]
  rw [hmap]
  ((repeat refine W_seq ?_); refine W_region0 T_ok ?_)
  simp (maxSteps := 1000000) only [VL, VM, ↓Gd_none, ↓Gd_t, ↓Gd_f, reduceIte, reduceCtorEq, Int.reduceLE, Int.reduceLT, Int.reduceToNat, Int.reduceNeg, Nat.reduceLT, Nat.reduceEqDiff, Nat.reduceAdd, Nat.reduceSub, Nat.reduceMul, Nat.reduceLeDiff]
  apply call_eq (f := 25) (fn := Try.f25) (by kernel_rfl) (by rfl)
  · exact Bears_vm h l2 _ F (by omega)
  simp (maxSteps := 1000000) only [VL, VM, ↓Gd_none, ↓Gd_t, ↓Gd_f, reduceIte, reduceCtorEq, Int.reduceLE, Int.reduceLT, Int.reduceToNat, Int.reduceNeg, Nat.reduceLT, Nat.reduceEqDiff, Nat.reduceAdd, Nat.reduceSub, Nat.reduceMul, Nat.reduceLeDiff]
  have hle3 : layoutErr h l2 = layErr h l2 := by unfold layoutErr; rw [if_neg (by simp [hv])]
  generalize hmi : met (yi * (wd + 2) + xi) = mi at hms hma hmb
  have m1 : -9223372036854775808 ≤ (mi : Int) + 1 ∧ (mi : Int) + 1 < 9223372036854775808 := by omega
  have hxs : ((xi + 1 : Nat) : Int) - 1 = c.x + 1 := by omega
  have x2 : -9223372036854775808 ≤ c.x + 1 ∧ c.x + 1 < 9223372036854775808 := by omega
  cases ea : allowedB h l2
  · rw [ea, if_neg (by simp), Nat.add_assoc] at hms
    have hno : ¬ (layoutErr h l2 = 0 ∧ bearsOut h l2 = 1) := by
      rintro ⟨e2, e3⟩
      rw [bearsOut, if_pos e2] at e3
      unfold allowedB at ea
      rw [decide_eq_true (hle3 ▸ e2), decide_eq_true e3] at ea
      cases ea
    ((repeat refine W_seq ?_); refine W_region0 T_ok ?_)
    by_cases e2 : layoutErr h l2 = 0
    · have e3 : (bearsOut h l2 = 1) = False := eq_false fun e3 => hno ⟨e2, e3⟩
      simp (maxSteps := 1000000) only [VL, VM, ↓Gd_none, ↓Gd_t, ↓Gd_f, reduceIte, reduceCtorEq, Int.reduceLE, Int.reduceLT, Int.reduceToNat, Int.reduceNeg, Nat.reduceLT, Nat.reduceEqDiff, Nat.reduceAdd, Nat.reduceSub, Nat.reduceMul, Nat.reduceLeDiff, e2, e3, eq_self, decide_true]
      ((repeat refine W_seq ?_); refine W_cond (b := true) (by first | rfl | simp only [ev, get_cons, Nat.reduceEqDiff, if_true, if_false, reduceIte]) (fun _ => ?_) (fun h => by cases h))
      ((repeat refine W_seq ?_); refine W_exit ?_)
      simp (maxSteps := 1000000) only [VL, VM, ↓Gd_none, ↓Gd_t, ↓Gd_f, reduceIte, reduceCtorEq, Int.reduceLE, Int.reduceLT, Int.reduceToNat, Int.reduceNeg, Nat.reduceLT, Nat.reduceEqDiff, Nat.reduceAdd, Nat.reduceSub, Nat.reduceMul, Nat.reduceLeDiff]
      ((repeat refine W_seq ?_); refine W_region0 T_ok ?_)
      simp (maxSteps := 1000000) only [VL, VM, ↓Gd_none, ↓Gd_t, ↓Gd_f, reduceIte, reduceCtorEq, Int.reduceLE, Int.reduceLT, Int.reduceToNat, Int.reduceNeg, Nat.reduceLT, Nat.reduceEqDiff, Nat.reduceAdd, Nat.reduceSub, Nat.reduceMul, Nat.reduceLeDiff, x1, x2]
      refine LoopK.mk (xi + 1, junk ++ [.clm (l.length + 1) 3]) (by simp only; omega) (by simp only; omega) ⟨rfl, rfl, rfl, rfl, ?_, rfl, ?_, trivial⟩ rfl
      · simp only [get_cons, Nat.reduceEqDiff, if_true, if_false, reduceIte]
        rw [hms]
        rfl
      · simp only [get_cons, Nat.reduceEqDiff, if_true, if_false, reduceIte]
        rw [hxs]
    · simp (maxSteps := 1000000) only [VL, VM, ↓Gd_none, ↓Gd_t, ↓Gd_f, reduceIte, reduceCtorEq, Int.reduceLE, Int.reduceLT, Int.reduceToNat, Int.reduceNeg, Nat.reduceLT, Nat.reduceEqDiff, Nat.reduceAdd, Nat.reduceSub, Nat.reduceMul, Nat.reduceLeDiff, eq_false e2]
      ((repeat refine W_seq ?_); refine W_cond (b := true) (by first | rfl | simp only [ev, get_cons, Nat.reduceEqDiff, if_true, if_false, reduceIte]) (fun _ => ?_) (fun h => by cases h))
      ((repeat refine W_seq ?_); refine W_exit ?_)
      simp (maxSteps := 1000000) only [VL, VM, ↓Gd_none, ↓Gd_t, ↓Gd_f, reduceIte, reduceCtorEq, Int.reduceLE, Int.reduceLT, Int.reduceToNat, Int.reduceNeg, Nat.reduceLT, Nat.reduceEqDiff, Nat.reduceAdd, Nat.reduceSub, Nat.reduceMul, Nat.reduceLeDiff]
      ((repeat refine W_seq ?_); refine W_region0 T_ok ?_)
      simp (maxSteps := 1000000) only [VL, VM, ↓Gd_none, ↓Gd_t, ↓Gd_f, reduceIte, reduceCtorEq, Int.reduceLE, Int.reduceLT, Int.reduceToNat, Int.reduceNeg, Nat.reduceLT, Nat.reduceEqDiff, Nat.reduceAdd, Nat.reduceSub, Nat.reduceMul, Nat.reduceLeDiff, x1, x2]
      refine LoopK.mk (xi + 1, junk ++ [.clm (l.length + 1) 3]) (by simp only; omega) (by simp only; omega) ⟨rfl, rfl, rfl, rfl, ?_, rfl, ?_, trivial⟩ rfl
      · simp only [get_cons, Nat.reduceEqDiff, if_true, if_false, reduceIte]
        rw [hms]
        rfl
      · simp only [get_cons, Nat.reduceEqDiff, if_true, if_false, reduceIte]
        rw [hxs]
  · rw [ea, if_pos rfl, Nat.add_assoc] at hms
    have e23 := allowedB_iff.1 ea
    have e2 : layoutErr h l2 = 0 := by rw [hle3]; exact layErr_zero.2 e23.1
    have e3 : bearsOut h l2 = 1 := by rw [bearsOut, if_pos e2]; exact e23.2
    have hr := hma ea
    have hr' := map_at (f := plP) hr
    have hrl := (List.getElem?_eq_some_iff.1 hr).1
    have k4 : ((room.length : Int) ≤ (mi : Int)) = False := eq_false (by omega)
    ((repeat refine W_seq ?_); refine W_region0 T_ok ?_)
    simp (maxSteps := 1000000) only [VL, VM, ↓Gd_none, ↓Gd_t, ↓Gd_f, reduceIte, reduceCtorEq, Int.reduceLE, Int.reduceLT, Int.reduceToNat, Int.reduceNeg, Nat.reduceLT, Nat.reduceEqDiff, Nat.reduceAdd, Nat.reduceSub, Nat.reduceMul, Nat.reduceLeDiff, e2, e3, eq_self, decide_true]
    ((repeat refine W_seq ?_); refine W_cond (b := false) (by first | rfl | simp only [ev, get_cons, Nat.reduceEqDiff, if_true, if_false, reduceIte]) (fun h => by cases h) (fun _ => ?_))
    ((repeat refine W_seq ?_); refine W_skip ?_)
    simp (maxSteps := 1000000) only [VL, VM, ↓Gd_none, ↓Gd_t, ↓Gd_f, reduceIte, reduceCtorEq, Int.reduceLE, Int.reduceLT, Int.reduceToNat, Int.reduceNeg, Nat.reduceLT, Nat.reduceEqDiff, Nat.reduceAdd, Nat.reduceSub, Nat.reduceMul, Nat.reduceLeDiff]
    ((repeat refine W_seq ?_); refine W_region0 T_ok ?_)
    simp (maxSteps := 1000000) only [VL, VM, ↓Gd_none, ↓Gd_t, ↓Gd_f, reduceIte, reduceCtorEq, Int.reduceLE, Int.reduceLT, Int.reduceToNat, Int.reduceNeg, Nat.reduceLT, Nat.reduceEqDiff, Nat.reduceAdd, Nat.reduceSub, Nat.reduceMul, Nat.reduceLeDiff, k4, hr', eq_self, decide_true, hcx, hcy]
    ((repeat refine W_seq ?_); refine W_cond (b := false) (by first | rfl | simp only [ev, get_cons, Nat.reduceEqDiff, if_true, if_false, reduceIte]) (fun h => by cases h) (fun _ => ?_))
    ((repeat refine W_seq ?_); refine W_skip ?_)
    simp (maxSteps := 1000000) only [VL, VM, ↓Gd_none, ↓Gd_t, ↓Gd_f, reduceIte, reduceCtorEq, Int.reduceLE, Int.reduceLT, Int.reduceToNat, Int.reduceNeg, Nat.reduceLT, Nat.reduceEqDiff, Nat.reduceAdd, Nat.reduceSub, Nat.reduceMul, Nat.reduceLeDiff]
    ((repeat refine W_seq ?_); refine W_region0 T_ok ?_)
    simp (maxSteps := 1000000) only [VL, VM, ↓Gd_none, ↓Gd_t, ↓Gd_f, reduceIte, reduceCtorEq, Int.reduceLE, Int.reduceLT, Int.reduceToNat, Int.reduceNeg, Nat.reduceLT, Nat.reduceEqDiff, Nat.reduceAdd, Nat.reduceSub, Nat.reduceMul, Nat.reduceLeDiff, m1]
    ((repeat refine W_seq ?_); refine W_region0 T_ok ?_)
    simp (maxSteps := 1000000) only [VL, VM, ↓Gd_none, ↓Gd_t, ↓Gd_f, reduceIte, reduceCtorEq, Int.reduceLE, Int.reduceLT, Int.reduceToNat, Int.reduceNeg, Nat.reduceLT, Nat.reduceEqDiff, Nat.reduceAdd, Nat.reduceSub, Nat.reduceMul, Nat.reduceLeDiff, x1, x2]
    refine LoopK.mk (xi + 1, junk ++ [.clm (l.length + 1) 3]) (by simp only; omega) (by simp only; omega) ⟨rfl, rfl, rfl, rfl, ?_, rfl, ?_, trivial⟩ rfl
    · simp only [get_cons, Nat.reduceEqDiff, if_true, if_false, reduceIte]
      rw [hms]
      rfl
    · simp only [get_cons, Nat.reduceEqDiff, if_true, if_false, reduceIte]
      rw [hxs]
end Go.Proofs.Ytijcmgfblpokhaa.Vm

/- VaultRoom: for every list of numbers the law answers true, and the numbers read afterwards as before. (Vm) -/
namespace Go.Proofs.Ytijcmgfblpokhaa.Vm
open Go Go.Proofs Go.ChangeShapes Go.WideShapes Go.ChangeAt Go.RowKit
set_option maxRecDepth 100000 in
theorem room_lifted (os : Os) (started : os.Started) (H : Type) (enc : TypeId × Value → H) :
    ReturnsInHanded {} Try.checked os 12 .any (Rows.vaultRoomSpec.pre6 enc Try.prog Try.f12 Rows.vaultRoomRow.domain false) (Rows.vaultRoomSpec.post enc Try.prog Try.f12 false true false false) := by
  refine returnsInHanded_of_change (C := Try.checked) law_own started (by kernel_rfl) Try.func12
    (ChangeSpec.witness6 (enc := enc) (C := Try.checked) false ⟨#[], #[.slice none 0 0], []⟩ 8 (by kernel_rfl) (by kernel_rfl) (by kernel_rfl) (by kernel_rfl)) ?_
  intro W base args ds gs before hval hW hcnd _
  exact ints_contract rfl (fun d => ⟨rfl, rfl, rfl⟩) rfl rfl (fun xs hl => room_law_v awake_v xs ⟨[], []⟩ hl) hval hW
theorem room_holds : Rows.VaultRoomSaid :=
  OpenClaim.holds_of_wide 12 Try.f12 rfl rfl rfl rfl rfl rfl rfl ⟨rfl, rfl, rfl, rfl, rfl⟩ rfl rfl rfl rfl rfl (by kernel_rfl) Try.func12 (by kernel_rfl)
    (of_decide_eq_true (by kernel_rfl)) (by unfold Func.isWrapper; first | (rw [if_pos (by decide +kernel)]; kernel_rfl) | (rw [if_neg (by decide +kernel)]; exact ⟨rfl, rfl⟩))
    (fun os started H enc _ => room_lifted os started H enc)
end Go.Proofs.Ytijcmgfblpokhaa.Vm
namespace Go.Proofs.Ytijcmgfblpokhaa
theorem vaultRoom_proved : Rows.VaultRoomSaid := Vm.room_holds
end Go.Proofs.Ytijcmgfblpokhaa
