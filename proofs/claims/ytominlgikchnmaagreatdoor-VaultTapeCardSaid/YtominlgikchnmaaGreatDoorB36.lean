/- A part of the proofs about the chapter of the vaults; it states no condition of its own. -/
import Derived.Test.YtominlgikchnmaaGreatDoorB23
import Derived.Test.YtominlgikchnmaaGreatDoorB25
import Derived.Test.YtominlgikchnmaaGreatDoorB28
import Derived.Test.YtominlgikchnmaaGreatDoorB33
import Derived.Test.YtominlgikchnmaaGreatDoorB34
import Derived.Test.YtominlgikchnmaaGreatDoorB35
set_option linter.unusedVariables false
set_option linter.unusedSimpArgs false
/- The law of the tape: what is written is read again, and what is read is what would be written. (Vm) -/
namespace Go.Proofs.YtominlgikchnmaaGreatDoor.Vm
open Go Go.Proofs
theorem DH_tl (M : Mem) (u : Int) (L : List VObj) : DH (M.H ++ [.dead]) M.H.length u L = M.H ++ (.obj [uv u] :: L) := by
  unfold DH
  rw [List.append_assoc]
  have := hset0 M.H ([.dead] ++ L) (.obj [uv u])
  rw [this]
  rfl
theorem shFin {h : Ha} (s : ShH h) : Fin h := ⟨by have := s.w; omega, by have := s.s; omega, by have := s.b; omega, by have := s.k; omega, fun k hk => by have := s.a k hk; omega⟩
theorem writeT_ok {y : Ha} (h : VH y) : writeT y = writeS y := if_pos (hall_z h)
attribute [local irreducible] castF castU fromF fromU oneF oneU
set_option maxHeartbeats 8000000 in
set_option maxRecDepth 100000 in
theorem tape_law_v (awake : ∀ M, VC Tryz.prog 6 [] M (fun r M' => M' = M ∧ r = vb true)) (xs : List Int) (s : By) (M : Mem) (hl : xs.length ≤ maxLen) (hs : s.length ≤ 9223372036854775807) : VC Tryz.prog 4 [intsV xs, vs s] M (fun r M' => M' = M ∧ r = vb true) := by
  refine VC_own' T_ok (f := 4) (fn := Tryz.f4) (by kernel_rfl) rfl Tryz.ntmps4 (by rfl) (by rfl) ?_
  ((repeat refine W_seq ?_); refine W_regionE T_ok ?_; intro Kn hKn)
  ((simp (maxSteps := 1000000) only [VL, VM, ↓Gd_none, ↓Gd_t, ↓Gd_f, reduceIte, reduceCtorEq, Int.reduceLE, Int.reduceLT, Int.reduceToNat, Int.reduceNeg, Nat.reduceLT, Nat.reduceEqDiff, Nat.reduceAdd, Nat.reduceSub, Nat.reduceMul, Nat.reduceLeDiff]); rw [hKn]; clear hKn; clear Kn; simp only [thenQ.eq_1, thenQ.eq_2, blockQ.eq_1, blockQ.eq_2, reduceIte, reduceCtorEq, Nat.reduceEqDiff])
  ((repeat refine W_seq ?_); refine W_regionE T_ok ?_; intro Kn hKn)
  by_cases hbig : 1200 < s.length
  · have k1 : ((1200 : Int) < (s.length : Int)) = True := eq_true (by omega)
    ((simp (maxSteps := 1000000) only [VL, VM, ↓Gd_none, ↓Gd_t, ↓Gd_f, reduceIte, reduceCtorEq, Int.reduceLE, Int.reduceLT, Int.reduceToNat, Int.reduceNeg, Nat.reduceLT, Nat.reduceEqDiff, Nat.reduceAdd, Nat.reduceSub, Nat.reduceMul, Nat.reduceLeDiff, tx_size, k1]); rw [hKn]; clear hKn; clear Kn; simp only [thenQ.eq_1, thenQ.eq_2, blockQ.eq_1, blockQ.eq_2, reduceIte, reduceCtorEq, Nat.reduceEqDiff])
    ((repeat refine W_seq ?_); refine W_cond (b := true) (by first | rfl | simp only [ev, get_cons, Nat.reduceEqDiff, if_true, if_false, reduceIte]) (fun _ => ?_) (fun h => by cases h))
    ((repeat refine W_seq ?_); refine W_regionE T_ok ?_; intro Kn hKn)
    simp (maxSteps := 1000000) only [VL, VM, ↓Gd_none, ↓Gd_t, ↓Gd_f, reduceIte, reduceCtorEq, Int.reduceLE, Int.reduceLT, Int.reduceToNat, Int.reduceNeg, Nat.reduceLT, Nat.reduceEqDiff, Nat.reduceAdd, Nat.reduceSub, Nat.reduceMul, Nat.reduceLeDiff]
    apply call_eq (f := 6) (fn := Tryz.f6) (by kernel_rfl) (by rfl)
    · exact awake _
    ((simp (maxSteps := 1000000) only [VL, VM, ↓Gd_none, ↓Gd_t, ↓Gd_f, reduceIte, reduceCtorEq, Int.reduceLE, Int.reduceLT, Int.reduceToNat, Int.reduceNeg, Nat.reduceLT, Nat.reduceEqDiff, Nat.reduceAdd, Nat.reduceSub, Nat.reduceMul, Nat.reduceLeDiff]); rw [hKn]; clear hKn; clear Kn; simp only [thenQ.eq_1, thenQ.eq_2, blockQ.eq_1, blockQ.eq_2, reduceIte, reduceCtorEq, Nat.reduceEqDiff])
    (repeat refine W_seq ?_)
    refine W_ret ?_
    try simp only [thenQ, blockQ]
    refine own_ret10 rfl ?_ (by rfl)
    simp only [get_cons, frz, vtup, Nat.reduceEqDiff, if_true, if_false, reduceIte]
  have k1 : ((1200 : Int) < (s.length : Int)) = False := eq_false (by omega)
  ((simp (maxSteps := 1000000) only [VL, VM, ↓Gd_none, ↓Gd_t, ↓Gd_f, reduceIte, reduceCtorEq, Int.reduceLE, Int.reduceLT, Int.reduceToNat, Int.reduceNeg, Nat.reduceLT, Nat.reduceEqDiff, Nat.reduceAdd, Nat.reduceSub, Nat.reduceMul, Nat.reduceLeDiff, tx_size, k1]); rw [hKn]; clear hKn; clear Kn; simp only [thenQ.eq_1, thenQ.eq_2, blockQ.eq_1, blockQ.eq_2, reduceIte, reduceCtorEq, Nat.reduceEqDiff])
  ((repeat refine W_seq ?_); refine W_cond (b := false) (by first | rfl | simp only [ev, get_cons, Nat.reduceEqDiff, if_true, if_false, reduceIte]) (fun h => by cases h) (fun _ => ?_))
  (((repeat refine W_seq ?_); refine W_skip ?_); simp only [thenQ.eq_1, thenQ.eq_2, blockQ.eq_1, blockQ.eq_2, reduceIte, reduceCtorEq, Nat.reduceEqDiff])
  ((repeat refine W_seq ?_); refine W_regionE T_ok ?_; intro Kn hKn)
  simp (maxSteps := 1000000) only [VL, VM, ↓Gd_none, ↓Gd_t, ↓Gd_f, reduceIte, reduceCtorEq, Int.reduceLE, Int.reduceLT, Int.reduceToNat, Int.reduceNeg, Nat.reduceLT, Nat.reduceEqDiff, Nat.reduceAdd, Nat.reduceSub, Nat.reduceMul, Nat.reduceLeDiff]
  apply call_eq (f := 8) (fn := Tryz.f8) (by kernel_rfl) (by rfl)
  · exact dieOf_v xs _ hl
  obtain ⟨H0, hH0⟩ : ∃ H0, H0 = M.H ++ [VObj.dead] := ⟨_, rfl⟩
  obtain ⟨d, hdd⟩ : ∃ d, d = M.H.length := ⟨_, rfl⟩
  have hd : d < H0.length := by rw [hH0, hdd]; simp
  have hlen0 : H0.length = M.H.length + 1 := by rw [hH0]; simp
  have tail : ∀ u L, DH H0 d u L = M.H ++ (.obj [uv u] :: L) := fun u L => by
    rw [hH0, hdd]
    exact DH_tl M u L
  rw [← hH0, ← hdd]
  generalize dieU xs = u0
  simp (maxSteps := 1000000) only [VL, VM, ↓Gd_none, ↓Gd_t, ↓Gd_f, reduceIte, reduceCtorEq, Int.reduceLE, Int.reduceLT, Int.reduceToNat, Int.reduceNeg, Nat.reduceLT, Nat.reduceEqDiff, Nat.reduceAdd, Nat.reduceSub, Nat.reduceMul, Nat.reduceLeDiff]
  refine fn_call (f := 7) (fn := Tryz.f7) (by kernel_rfl) (by rfl) ?_
  refine (hallOf_v hd u0 M.lg 6 4 6 (by omega) (by omega) (by omega)).mono ?_
  rintro _ _ ⟨y, u1, wd, dp, rfl, rfl, hG, -, -, -⟩
  have hy0 := hG.ok
  have hm := VH.of hy0
  have F := hG.fin
  rw [tail]
  ((simp (maxSteps := 1000000) only [VL, VM, ↓Gd_none, ↓Gd_t, ↓Gd_f, reduceIte, reduceCtorEq, Int.reduceLE, Int.reduceLT, Int.reduceToNat, Int.reduceNeg, Nat.reduceLT, Nat.reduceEqDiff, Nat.reduceAdd, Nat.reduceSub, Nat.reduceMul, Nat.reduceLeDiff]); rw [hKn]; clear hKn; clear Kn; simp only [thenQ.eq_1, thenQ.eq_2, blockQ.eq_1, blockQ.eq_2, reduceIte, reduceCtorEq, Nat.reduceEqDiff])
  have hwl := writeS_len hm
  ((repeat refine W_seq ?_); refine W_regionE T_ok ?_; intro Kn hKn)
  simp (maxSteps := 1000000) only [VL, VM, ↓Gd_none, ↓Gd_t, ↓Gd_f, reduceIte, reduceCtorEq, Int.reduceLE, Int.reduceLT, Int.reduceToNat, Int.reduceNeg, Nat.reduceLT, Nat.reduceEqDiff, Nat.reduceAdd, Nat.reduceSub, Nat.reduceMul, Nat.reduceLeDiff]
  apply call_eq (f := 9) (fn := Tryz.f9) (by kernel_rfl) (by rfl)
  · exact pwrite_v y _ F
  rw [writeT_ok hm, hy0]
  ((simp (maxSteps := 1000000) only [VL, VM, ↓Gd_none, ↓Gd_t, ↓Gd_f, reduceIte, reduceCtorEq, Int.reduceLE, Int.reduceLT, Int.reduceToNat, Int.reduceNeg, Nat.reduceLT, Nat.reduceEqDiff, Nat.reduceAdd, Nat.reduceSub, Nat.reduceMul, Nat.reduceLeDiff]); rw [hKn]; clear hKn; clear Kn; simp only [thenQ.eq_1, thenQ.eq_2, blockQ.eq_1, blockQ.eq_2, reduceIte, reduceCtorEq, Nat.reduceEqDiff])
  ((repeat refine W_seq ?_); refine W_regionE T_ok ?_; intro Kn hKn)
  simp (maxSteps := 1000000) only [VL, VM, ↓Gd_none, ↓Gd_t, ↓Gd_f, reduceIte, reduceCtorEq, Int.reduceLE, Int.reduceLT, Int.reduceToNat, Int.reduceNeg, Nat.reduceLT, Nat.reduceEqDiff, Nat.reduceAdd, Nat.reduceSub, Nat.reduceMul, Nat.reduceLeDiff]
  apply call_eq (f := 12) (fn := Tryz.f12) (by kernel_rfl) (by rfl)
  · exact pread_v (writeS y) _ (by omega)
  rw [rsRead_write hm]
  ((simp (maxSteps := 1000000) only [VL, VM, ↓Gd_none, ↓Gd_t, ↓Gd_f, reduceIte, reduceCtorEq, Int.reduceLE, Int.reduceLT, Int.reduceToNat, Int.reduceNeg, Nat.reduceLT, Nat.reduceEqDiff, Nat.reduceAdd, Nat.reduceSub, Nat.reduceMul, Nat.reduceLeDiff]); rw [hKn]; clear hKn; clear Kn; simp only [thenQ.eq_1, thenQ.eq_2, blockQ.eq_1, blockQ.eq_2, reduceIte, reduceCtorEq, Nat.reduceEqDiff])
  (repeat refine W_seq ?_)
  ((repeat refine W_seq ?_); refine W_regionE T_ok ?_; intro Kn hKn)
  simp (maxSteps := 1000000) only [VL, VM, ↓Gd_none, ↓Gd_t, ↓Gd_f, reduceIte, reduceCtorEq, Int.reduceLE, Int.reduceLT, Int.reduceToNat, Int.reduceNeg, Nat.reduceLT, Nat.reduceEqDiff, Nat.reduceAdd, Nat.reduceSub, Nat.reduceMul, Nat.reduceLeDiff]
  apply call_eq (f := 14) (fn := Tryz.f14) (by kernel_rfl) (by rfl)
  · exact sameHalls_v y _ F
  ((simp (maxSteps := 1000000) only [VL, VM, ↓Gd_none, ↓Gd_t, ↓Gd_f, reduceIte, reduceCtorEq, Int.reduceLE, Int.reduceLT, Int.reduceToNat, Int.reduceNeg, Nat.reduceLT, Nat.reduceEqDiff, Nat.reduceAdd, Nat.reduceSub, Nat.reduceMul, Nat.reduceLeDiff]); rw [hKn]; clear hKn; clear Kn; simp only [thenQ.eq_1, thenQ.eq_2, blockQ.eq_1, blockQ.eq_2, reduceIte, reduceCtorEq, Nat.reduceEqDiff])
  ((repeat refine W_seq ?_); refine W_cond (b := false) (by first | rfl | simp only [ev, get_cons, Nat.reduceEqDiff, if_true, if_false, reduceIte]) (fun h => by cases h) (fun _ => ?_))
  (((repeat refine W_seq ?_); refine W_skip ?_); simp only [thenQ.eq_1, thenQ.eq_2, blockQ.eq_1, blockQ.eq_2, reduceIte, reduceCtorEq, Nat.reduceEqDiff])
  ((repeat refine W_seq ?_); refine W_regionE T_ok ?_; intro Kn hKn)
  simp (maxSteps := 1000000) only [VL, VM, ↓Gd_none, ↓Gd_t, ↓Gd_f, reduceIte, reduceCtorEq, Int.reduceLE, Int.reduceLT, Int.reduceToNat, Int.reduceNeg, Nat.reduceLT, Nat.reduceEqDiff, Nat.reduceAdd, Nat.reduceSub, Nat.reduceMul, Nat.reduceLeDiff]
  apply call_eq (f := 12) (fn := Tryz.f12) (by kernel_rfl) (by rfl)
  · exact pread_v s _ hs
  cases hr : rsRead s with | mk z r2 => ?_
  obtain ⟨a, b⟩ := r2
  ((simp (maxSteps := 1000000) only [VL, VM, ↓Gd_none, ↓Gd_t, ↓Gd_f, reduceIte, reduceCtorEq, Int.reduceLE, Int.reduceLT, Int.reduceToNat, Int.reduceNeg, Nat.reduceLT, Nat.reduceEqDiff, Nat.reduceAdd, Nat.reduceSub, Nat.reduceMul, Nat.reduceLeDiff]); rw [hKn]; clear hKn; clear Kn; simp only [thenQ.eq_1, thenQ.eq_2, blockQ.eq_1, blockQ.eq_2, reduceIte, reduceCtorEq, Nat.reduceEqDiff])
  ((repeat refine W_seq ?_); refine W_regionE T_ok ?_; intro Kn hKn)
  by_cases hb : b = 0
  rotate_left
  · have k2 : (b = 0) = False := eq_false hb
    ((simp (maxSteps := 1000000) only [VL, VM, ↓Gd_none, ↓Gd_t, ↓Gd_f, reduceIte, reduceCtorEq, Int.reduceLE, Int.reduceLT, Int.reduceToNat, Int.reduceNeg, Nat.reduceLT, Nat.reduceEqDiff, Nat.reduceAdd, Nat.reduceSub, Nat.reduceMul, Nat.reduceLeDiff, k2]); rw [hKn]; clear hKn; clear Kn; simp only [thenQ.eq_1, thenQ.eq_2, blockQ.eq_1, blockQ.eq_2, reduceIte, reduceCtorEq, Nat.reduceEqDiff])
    ((repeat refine W_seq ?_); refine W_cond (b := true) (by first | rfl | simp only [ev, get_cons, Nat.reduceEqDiff, if_true, if_false, reduceIte]) (fun _ => ?_) (fun h => by cases h))
    ((repeat refine W_seq ?_); refine W_regionE T_ok ?_; intro Kn hKn)
    simp (maxSteps := 1000000) only [VL, VM, ↓Gd_none, ↓Gd_t, ↓Gd_f, reduceIte, reduceCtorEq, Int.reduceLE, Int.reduceLT, Int.reduceToNat, Int.reduceNeg, Nat.reduceLT, Nat.reduceEqDiff, Nat.reduceAdd, Nat.reduceSub, Nat.reduceMul, Nat.reduceLeDiff]
    apply call_eq (f := 6) (fn := Tryz.f6) (by kernel_rfl) (by rfl)
    · exact awake _
    ((simp (maxSteps := 1000000) only [VL, VM, ↓Gd_none, ↓Gd_t, ↓Gd_f, reduceIte, reduceCtorEq, Int.reduceLE, Int.reduceLT, Int.reduceToNat, Int.reduceNeg, Nat.reduceLT, Nat.reduceEqDiff, Nat.reduceAdd, Nat.reduceSub, Nat.reduceMul, Nat.reduceLeDiff]); rw [hKn]; clear hKn; clear Kn; simp only [thenQ.eq_1, thenQ.eq_2, blockQ.eq_1, blockQ.eq_2, reduceIte, reduceCtorEq, Nat.reduceEqDiff])
    (repeat refine W_seq ?_)
    refine W_ret ?_
    try simp only [thenQ, blockQ]
    refine own_ret1 rfl ?_ (by rfl)
    simp only [get_cons, frz, vtup, Nat.reduceEqDiff, if_true, if_false, reduceIte]
  subst hb
  obtain ⟨hz, hw⟩ := rsRead_back hr
  have Fz := shFin hz.short
  ((simp (maxSteps := 1000000) only [VL, VM, ↓Gd_none, ↓Gd_t, ↓Gd_f, reduceIte, reduceCtorEq, Int.reduceLE, Int.reduceLT, Int.reduceToNat, Int.reduceNeg, Nat.reduceLT, Nat.reduceEqDiff, Nat.reduceAdd, Nat.reduceSub, Nat.reduceMul, Nat.reduceLeDiff]); rw [hKn]; clear hKn; clear Kn; simp only [thenQ.eq_1, thenQ.eq_2, blockQ.eq_1, blockQ.eq_2, reduceIte, reduceCtorEq, Nat.reduceEqDiff])
  ((repeat refine W_seq ?_); refine W_cond (b := false) (by first | rfl | simp only [ev, get_cons, Nat.reduceEqDiff, if_true, if_false, reduceIte]) (fun h => by cases h) (fun _ => ?_))
  (((repeat refine W_seq ?_); refine W_skip ?_); simp only [thenQ.eq_1, thenQ.eq_2, blockQ.eq_1, blockQ.eq_2, reduceIte, reduceCtorEq, Nat.reduceEqDiff])
  ((repeat refine W_seq ?_); refine W_regionE T_ok ?_; intro Kn hKn)
  simp (maxSteps := 1000000) only [VL, VM, ↓Gd_none, ↓Gd_t, ↓Gd_f, reduceIte, reduceCtorEq, Int.reduceLE, Int.reduceLT, Int.reduceToNat, Int.reduceNeg, Nat.reduceLT, Nat.reduceEqDiff, Nat.reduceAdd, Nat.reduceSub, Nat.reduceMul, Nat.reduceLeDiff]
  apply call_eq (f := 9) (fn := Tryz.f9) (by kernel_rfl) (by rfl)
  · exact pwrite_v z _ Fz
  rw [writeT_ok hz, hall_z hz, hw]
  ((simp (maxSteps := 1000000) only [VL, VM, ↓Gd_none, ↓Gd_t, ↓Gd_f, reduceIte, reduceCtorEq, Int.reduceLE, Int.reduceLT, Int.reduceToNat, Int.reduceNeg, Nat.reduceLT, Nat.reduceEqDiff, Nat.reduceAdd, Nat.reduceSub, Nat.reduceMul, Nat.reduceLeDiff]); rw [hKn]; clear hKn; clear Kn; simp only [thenQ.eq_1, thenQ.eq_2, blockQ.eq_1, blockQ.eq_2, reduceIte, reduceCtorEq, Nat.reduceEqDiff])
  ((repeat refine W_seq ?_); refine W_regionE T_ok ?_; intro Kn hKn)
  simp (maxSteps := 1000000) only [VL, VM, ↓Gd_none, ↓Gd_t, ↓Gd_f, reduceIte, reduceCtorEq, Int.reduceLE, Int.reduceLT, Int.reduceToNat, Int.reduceNeg, Nat.reduceLT, Nat.reduceEqDiff, Nat.reduceAdd, Nat.reduceSub, Nat.reduceMul, Nat.reduceLeDiff, v_eqS]
  apply call_eq (f := 6) (fn := Tryz.f6) (by kernel_rfl) (by rfl)
  · exact awake _
  ((simp (maxSteps := 1000000) only [VL, VM, ↓Gd_none, ↓Gd_t, ↓Gd_f, reduceIte, reduceCtorEq, Int.reduceLE, Int.reduceLT, Int.reduceToNat, Int.reduceNeg, Nat.reduceLT, Nat.reduceEqDiff, Nat.reduceAdd, Nat.reduceSub, Nat.reduceMul, Nat.reduceLeDiff]); rw [hKn]; clear hKn; clear Kn; simp only [thenQ.eq_1, thenQ.eq_2, blockQ.eq_1, blockQ.eq_2, reduceIte, reduceCtorEq, Nat.reduceEqDiff])
  (repeat refine W_seq ?_)
  refine W_ret ?_
  try simp only [thenQ, blockQ]
  refine own_ret1 rfl ?_ (by rfl)
  simp only [get_cons, frz, vtup, Nat.reduceEqDiff, if_true, if_false, reduceIte]
end Go.Proofs.YtominlgikchnmaaGreatDoor.Vm
