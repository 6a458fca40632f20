/- DoorSafe: for every list of numbers the law answers true. No conditions. -/
import Derived.Test.YtmagiabapakhcaaB52
import Derived.Test.YtmagiabapakhcaaB53
set_option linter.unusedVariables false
set_option linter.unusedSimpArgs false
/- The law of whoever may be inside, on values. (Vm) -/
namespace Go.Proofs.Ytmagiabapakhcaa.Vm
open Go Go.Proofs
theorem v_eqBool (a b : Bool) : vbin T .eql 4 (vb a) (vb b) = some (vb (a == b)) := by
  simp only [vbin, t_bool]
theorem insideH_bd {h : Ho} (V : HV h) {l : List Sp} (hi : insideH h = some l) (t : Nat) (x : Sp) (hx : l[t]? = some x) : x.lo ≤ 2000000 ∧ x.hi ≤ 2000000 := by
  unfold insideH at hi
  split at hi
  · cases hi
  · have e := Option.some.inj hi
    subst e
    unfold insideL at hx
    have t1 := V.t1
    rw [List.getElem?_map] at hx
    rcases Nat.lt_or_ge t (h.ticks.toNat + 1) with q | q
    · rw [List.getElem?_range q, Option.map_some] at hx
      have hx := Option.some.inj hx
      subst hx
      have := bwd_bd V.first (C := fun t : Nat => chg h.counts (t : Int)) (fun t => chg_bd V (t : Int)) h.ticks.toNat (h.ticks.toNat - t) (by omega)
      omega
    · rw [List.getElem?_eq_none (by simpa using q)] at hx
      cases hx
/-- the loop's two answers: some one is safe, every one is -/
def someS (lo n : Int) (j : Nat) : Bool := decide (0 < j) && decide (lo ≤ n)
def everyS (lo n : Int) (j : Nat) : Bool := decide (j = 0) || decide (lo + j - 1 ≤ n)
set_option maxHeartbeats 8000000 in
set_option maxRecDepth 8000 in
theorem safe_law_v (xs : List Int) (M : Mem) (hl : xs.length ≤ maxLen) : VC Try.prog 16 [intsV xs] M (fun r M' => M' = M ∧ r = vb true) := by
  refine VC_own' T_ok (f := 16) (fn := Try.f16) (by kernel_rfl) rfl Try.ntmps16 (by rfl) (by rfl) ?_
  ((repeat refine W_seq ?_); refine W_region0 T_ok ?_)
  simp (maxSteps := 1000000) only [VL, VM, ↓Gd_none, ↓Gd_t, ↓Gd_f, reduceIte, reduceCtorEq, Int.reduceLE, Int.reduceLT, Int.reduceToNat, Int.reduceNeg, Nat.reduceLT, Nat.reduceEqDiff, Nat.reduceAdd, Nat.reduceSub, Nat.reduceMul, Nat.reduceLeDiff]
  ((repeat refine W_seq ?_); refine W_region0 T_ok ?_)
  simp (maxSteps := 1000000) only [VL, VM, ↓Gd_none, ↓Gd_t, ↓Gd_f, reduceIte, reduceCtorEq, Int.reduceLE, Int.reduceLT, Int.reduceToNat, Int.reduceNeg, Nat.reduceLT, Nat.reduceEqDiff, Nat.reduceAdd, Nat.reduceSub, Nat.reduceMul, Nat.reduceLeDiff]
  apply call_eq (f := 20) (fn := Try.f20) (by kernel_rfl) (by rfl)
  · exact dieOf_v xs M hl
  obtain ⟨H0, hH0⟩ : ∃ H0, H0 = M.H ++ [VObj.dead] := ⟨_, rfl⟩
  obtain ⟨d, hdd⟩ : ∃ d, d = M.H.length := ⟨_, rfl⟩
  have hd : d < H0.length := by rw [hH0, hdd]; simp
  rw [← hH0, ← hdd]
  have tail : ∀ u L, DH H0 d u L = M.H ++ (.obj [uv u] :: L) := fun u L => by rw [hH0, hdd]; exact DH_tail M u L
  generalize dieU xs = u0
  simp (maxSteps := 1000000) only [VL, VM, ↓Gd_none, ↓Gd_t, ↓Gd_f, reduceIte, reduceCtorEq, Int.reduceLE, Int.reduceLT, Int.reduceToNat, Int.reduceNeg, Nat.reduceLT, Nat.reduceEqDiff, Nat.reduceAdd, Nat.reduceSub, Nat.reduceMul, Nat.reduceLeDiff]
  ((repeat refine W_seq ?_); refine W_region0 T_ok ?_)
  simp (maxSteps := 1000000) only [VL, VM, ↓Gd_none, ↓Gd_t, ↓Gd_f, reduceIte, reduceCtorEq, Int.reduceLE, Int.reduceLT, Int.reduceToNat, Int.reduceNeg, Nat.reduceLT, Nat.reduceEqDiff, Nat.reduceAdd, Nat.reduceSub, Nat.reduceMul, Nat.reduceLeDiff]
  have o1 := oneF_mem (u := u0) (xs := [9, 60]) (by simp) (by simp)
  apply call_eq (f := 28) (fn := Try.f28) (by kernel_rfl) (by rfl)
  · exact one_c hd u0 [9, 60] M.lg (by simp) (by simp)
  generalize oneF u0 [9, 60] = P at o1 ⊢
  generalize oneU u0 [9, 60] = u1
  have hP : 1 ≤ P ∧ P ≤ 1000 := by
    simp only [List.mem_cons, List.not_mem_nil, or_false] at o1
    rcases o1 with e | e <;> rw [e] <;> omega
  simp (maxSteps := 1000000) only [VL, VM, ↓Gd_none, ↓Gd_t, ↓Gd_f, reduceIte, reduceCtorEq, Int.reduceLE, Int.reduceLT, Int.reduceToNat, Int.reduceNeg, Nat.reduceLT, Nat.reduceEqDiff, Nat.reduceAdd, Nat.reduceSub, Nat.reduceMul, Nat.reduceLeDiff]
  refine fn_call (f := 19) (fn := Try.f19) (by kernel_rfl) (by rfl) ?_
  refine (houseOf_v hd u1 M.lg 3 4 4 P (by omega) (by omega) (by omega) hP).mono ?_
  rintro _ _ ⟨h, ts, u2, rfl, rfl, m⟩
  obtain ⟨l, hli, hll, hlt⟩ := made_inside m
  have hR := insideR_some m.V hli
  have n1 := m.V.n1
  have d1 := m.V.d1
  have c1 := m.V.c1
  have hT := m.V.t1
  have hT0 := m.V.t0
  have hlen := m.len
  have hlenN : ts.length = h.ticks.toNat + 1 := by omega
  have kT : -9223372036854775808 ≤ h.ticks + 1 ∧ h.ticks + 1 < 9223372036854775808 := by omega
  have zd : h.doors.length ≤ 1000 := by omega
  simp (maxSteps := 1000000) only [VL, VM, ↓Gd_none, ↓Gd_t, ↓Gd_f, reduceIte, reduceCtorEq, Int.reduceLE, Int.reduceLT, Int.reduceToNat, Int.reduceNeg, Nat.reduceLT, Nat.reduceEqDiff, Nat.reduceAdd, Nat.reduceSub, Nat.reduceMul, Nat.reduceLeDiff, DH_app hd, DH_len, DH_len0, DH_get hd, DH_get0 hd, DH_set hd, DH_set0 hd, DH_setd, DH_die hd]
  (repeat refine W_seq ?_)
  refine W_drawP T_ok [] (by kernel_rfl) (by kernel_rfl) ?_
  generalize hi : mkPlan _ = infs
  cbv at hi
  subst hi
  simp (maxSteps := 1000000) only [VL, VM, ↓Gd_none, ↓Gd_t, ↓Gd_f, reduceIte, reduceCtorEq, Int.reduceLE, Int.reduceLT, Int.reduceToNat, Int.reduceNeg, Nat.reduceLT, Nat.reduceEqDiff, Nat.reduceAdd, Nat.reduceSub, Nat.reduceMul, Nat.reduceLeDiff, DH_app hd, DH_len, DH_len0, DH_get hd, DH_get0 hd, DH_set hd, DH_set0 hd, DH_setd, DH_die hd]
  refine call_d (f := 29) (fn := Try.f29) (M1 := ⟨DH H0 d (shutSt u2 h.doors.length).1 [.obj (houseC h)], M.lg⟩) (v := intsV (shutSt u2 h.doors.length).2) (by kernel_rfl) (by rfl) ?_ ?_
  · have := shutOf_v (H0 := H0 ++ [.obj (houseC h)]) (d := d) (by rw [List.length_append]; omega) u2 M.lg h zd
    rw [← DH_base, ← DH_base] at this
    exact this
  have hshut := shut_ok u2 h.doors.length
  have hsb := (shut_bd u2 h.doors.length).1
  generalize (shutSt u2 h.doors.length).1 = u3
  generalize (shutSt u2 h.doors.length).2 = closed at hshut hsb ⊢
  simp (maxSteps := 1000000) only [VL, VM, ↓Gd_none, ↓Gd_t, ↓Gd_f, reduceIte, reduceCtorEq, Int.reduceLE, Int.reduceLT, Int.reduceToNat, Int.reduceNeg, Nat.reduceLT, Nat.reduceEqDiff, Nat.reduceAdd, Nat.reduceSub, Nat.reduceMul, Nat.reduceLeDiff, DH_app hd, DH_len, DH_len0, DH_get hd, DH_get0 hd, DH_set hd, DH_set0 hd, DH_setd, DH_die hd, kT]
  have ca := castF_range (u := u3) (n := h.ticks + 1) (by omega)
  apply call_d (f := 45) (fn := Try.f45) (by kernel_rfl) (by rfl)
  · exact cast_c hd u3 (h.ticks + 1) M.lg (by omega)
  generalize castU u3 (h.ticks + 1) = u4
  generalize castF u3 (h.ticks + 1) = at0 at ca ⊢
  simp (maxSteps := 1000000) only [VL, VM, ↓Gd_none, ↓Gd_t, ↓Gd_f, reduceIte, reduceCtorEq, Int.reduceLE, Int.reduceLT, Int.reduceToNat, Int.reduceNeg, Nat.reduceLT, Nat.reduceEqDiff, Nat.reduceAdd, Nat.reduceSub, Nat.reduceMul, Nat.reduceLeDiff, DH_app hd, DH_len, DH_len0, DH_get hd, DH_get0 hd, DH_set hd, DH_set0 hd, DH_setd, DH_die hd, kT]
  have ct := castF_range (u := u4) (n := 8) (by omega)
  apply call_d (f := 45) (fn := Try.f45) (by kernel_rfl) (by rfl)
  · exact cast_c hd u4 8 M.lg (by omega)
  generalize castU u4 8 = u5
  generalize castF u4 8 = tk at ct ⊢
  simp (maxSteps := 1000000) only [VL, VM, ↓Gd_none, ↓Gd_t, ↓Gd_f, reduceIte, reduceCtorEq, Int.reduceLE, Int.reduceLT, Int.reduceToNat, Int.reduceNeg, Nat.reduceLT, Nat.reduceEqDiff, Nat.reduceAdd, Nat.reduceSub, Nat.reduceMul, Nat.reduceLeDiff, DH_app hd, DH_len, DH_len0, DH_get hd, DH_get0 hd, DH_set hd, DH_set0 hd, DH_setd, DH_die hd]
  have hte : ticksErr h at0 tk closed = 0 := ticksErr_ok.2 ⟨m.V, by omega, by omega, hshut⟩
  have hte0 : ticksErr h 0 tk closed = 0 := ticksErr_ok.2 ⟨m.V, by omega, by omega, hshut⟩
  have hA : admitR h tk closed = (admitV h tk.toNat closed, 0) := by unfold admitR; rw [if_pos hte0]
  have hS : safeR h at0 tk closed = safeV (l.getD at0.toNat ⟨0, 0⟩) (admitV h tk.toNat closed) := by unfold safeR; rw [if_pos hte, hli]
  ((repeat refine W_seq ?_); refine W_region0 T_ok ?_)
  simp (maxSteps := 1000000) only [VL, VM, ↓Gd_none, ↓Gd_t, ↓Gd_f, reduceIte, reduceCtorEq, Int.reduceLE, Int.reduceLT, Int.reduceToNat, Int.reduceNeg, Nat.reduceLT, Nat.reduceEqDiff, Nat.reduceAdd, Nat.reduceSub, Nat.reduceMul, Nat.reduceLeDiff, DH_app hd, DH_len, DH_len0, DH_get hd, DH_get0 hd, DH_set hd, DH_set0 hd, DH_setd, DH_die hd]
  apply call_eq (f := 22) (fn := Try.f22) (by kernel_rfl) (by rfl)
  · exact Inside_v h _ (by omega) (by omega) (by omega)
  rw [hR]
  simp (maxSteps := 1000000) only [VL, VM, ↓Gd_none, ↓Gd_t, ↓Gd_f, reduceIte, reduceCtorEq, Int.reduceLE, Int.reduceLT, Int.reduceToNat, Int.reduceNeg, Nat.reduceLT, Nat.reduceEqDiff, Nat.reduceAdd, Nat.reduceSub, Nat.reduceMul, Nat.reduceLeDiff, DH_app hd, DH_len, DH_len0, DH_get hd, DH_get0 hd, DH_set hd, DH_set0 hd, DH_setd, DH_die hd]
  ((repeat refine W_seq ?_); refine W_region0 T_ok ?_)
  simp (maxSteps := 1000000) only [VL, VM, ↓Gd_none, ↓Gd_t, ↓Gd_f, reduceIte, reduceCtorEq, Int.reduceLE, Int.reduceLT, Int.reduceToNat, Int.reduceNeg, Nat.reduceLT, Nat.reduceEqDiff, Nat.reduceAdd, Nat.reduceSub, Nat.reduceMul, Nat.reduceLeDiff, DH_app hd, DH_len, DH_len0, DH_get hd, DH_get0 hd, DH_set hd, DH_set0 hd, DH_setd, DH_die hd]
  apply call_eq (f := 52) (fn := Try.f52) (by kernel_rfl) (by rfl)
  · exact Admit_v h tk closed _ (by omega) (by omega) (by omega) (by omega)
  rw [hA]
  simp (maxSteps := 1000000) only [VL, VM, ↓Gd_none, ↓Gd_t, ↓Gd_f, reduceIte, reduceCtorEq, Int.reduceLE, Int.reduceLT, Int.reduceToNat, Int.reduceNeg, Nat.reduceLT, Nat.reduceEqDiff, Nat.reduceAdd, Nat.reduceSub, Nat.reduceMul, Nat.reduceLeDiff, DH_app hd, DH_len, DH_len0, DH_get hd, DH_get0 hd, DH_set hd, DH_set0 hd, DH_setd, DH_die hd]
  ((repeat refine W_seq ?_); refine W_region0 T_ok ?_)
  simp (maxSteps := 1000000) only [VL, VM, ↓Gd_none, ↓Gd_t, ↓Gd_f, reduceIte, reduceCtorEq, Int.reduceLE, Int.reduceLT, Int.reduceToNat, Int.reduceNeg, Nat.reduceLT, Nat.reduceEqDiff, Nat.reduceAdd, Nat.reduceSub, Nat.reduceMul, Nat.reduceLeDiff, DH_app hd, DH_len, DH_len0, DH_get hd, DH_get0 hd, DH_set hd, DH_set0 hd, DH_setd, DH_die hd]
  apply call_eq (f := 58) (fn := Try.f58) (by kernel_rfl) (by rfl)
  · exact Safe_v h at0 tk closed _ (by omega) (by omega) (by omega) (by omega)
  rw [hS]
  obtain ⟨a, rfl⟩ : ∃ a : Nat, at0 = (a : Int) := ⟨at0.toNat, by omega⟩
  rw [Int.toNat_natCast]
  have hx : l[a]? = some (l.getD a ⟨0, 0⟩) := by rw [List.getD_eq_getElem?_getD, List.getElem?_eq_getElem (by omega)]; rfl
  have hy : ts[a]? = some (ts.getD a 0) := by rw [List.getD_eq_getElem?_getD, List.getElem?_eq_getElem (by omega)]; rfl
  obtain ⟨⟨g1, g2⟩, g3⟩ := hlt a _ hx
  obtain ⟨x, hxe⟩ : ∃ x, x = l.getD a ⟨0, 0⟩ := ⟨_, rfl⟩
  obtain ⟨y, hye⟩ : ∃ y, y = ts.getD a 0 := ⟨_, rfl⟩
  rw [← hxe] at hx g1 g2 g3 ⊢
  rw [← hye] at hy g1 g2
  have hx' := map_at (f := spP) hx
  have hy' := map_at (f := intP) hy
  obtain ⟨n, hn⟩ : ∃ n, n = admitV h tk.toNat closed := ⟨_, rfl⟩
  rw [← hn]
  have hv2 : (safeV x n).2 = 0 := by unfold safeV; split; rfl; split <;> rfl
  have hv1 : (safeV x n).1 = if x.hi ≤ n then 1 else if n < x.lo then 2 else 3 := by unfold safeV; split; rfl; split <;> rfl
  rw [hv2]
  generalize (safeV x n).1 = v at hv1 ⊢
  have hxb : 0 ≤ x.lo ∧ x.lo ≤ 2000000 ∧ x.hi ≤ 2000000 := by
    have hf := insideH_bd m.V hli a x hx
    omega
  have k0 : ((l.length : Int) = (ts.length : Int)) = True := eq_true (by omega)
  simp (maxSteps := 1000000) only [VL, VM, ↓Gd_none, ↓Gd_t, ↓Gd_f, reduceIte, reduceCtorEq, Int.reduceLE, Int.reduceLT, Int.reduceToNat, Int.reduceNeg, Nat.reduceLT, Nat.reduceEqDiff, Nat.reduceAdd, Nat.reduceSub, Nat.reduceMul, Nat.reduceLeDiff, DH_app hd, DH_len, DH_len0, DH_get hd, DH_get0 hd, DH_set hd, DH_set0 hd, DH_setd, DH_die hd]
  ((repeat refine W_seq ?_); refine W_region0 T_ok ?_)
  simp (maxSteps := 1000000) only [VL, VM, ↓Gd_none, ↓Gd_t, ↓Gd_f, reduceIte, reduceCtorEq, Int.reduceLE, Int.reduceLT, Int.reduceToNat, Int.reduceNeg, Nat.reduceLT, Nat.reduceEqDiff, Nat.reduceAdd, Nat.reduceSub, Nat.reduceMul, Nat.reduceLeDiff, k0]
  ((repeat refine W_seq ?_); refine W_cond (b := false) (by first | rfl | simp only [ev, get_cons, Nat.reduceEqDiff, if_true, if_false, reduceIte]) (fun h => by cases h) (fun _ => ?_))
  ((repeat refine W_seq ?_); refine W_skip ?_)
  simp (maxSteps := 1000000) only [VL, VM, ↓Gd_none, ↓Gd_t, ↓Gd_f, reduceIte, reduceCtorEq, Int.reduceLE, Int.reduceLT, Int.reduceToNat, Int.reduceNeg, Nat.reduceLT, Nat.reduceEqDiff, Nat.reduceAdd, Nat.reduceSub, Nat.reduceMul, Nat.reduceLeDiff]
  ((repeat refine W_seq ?_); refine W_region0 T_ok ?_)
  simp (maxSteps := 1000000) only [VL, VM, ↓Gd_none, ↓Gd_t, ↓Gd_f, reduceIte, reduceCtorEq, Int.reduceLE, Int.reduceLT, Int.reduceToNat, Int.reduceNeg, Nat.reduceLT, Nat.reduceEqDiff, Nat.reduceAdd, Nat.reduceSub, Nat.reduceMul, Nat.reduceLeDiff]
  ((repeat refine W_seq ?_); refine W_region0 T_ok ?_)
  simp (maxSteps := 1000000) only [VL, VM, ↓Gd_none, ↓Gd_t, ↓Gd_f, reduceIte, reduceCtorEq, Int.reduceLE, Int.reduceLT, Int.reduceToNat, Int.reduceNeg, Nat.reduceLT, Nat.reduceEqDiff, Nat.reduceAdd, Nat.reduceSub, Nat.reduceMul, Nat.reduceLeDiff, hx']
  have hz : vi x.lo = vi (x.lo + ((0 : Nat) : Int)) := by rw [show x.lo + ((0 : Nat) : Int) = x.lo by omega]
  ((repeat refine W_seq ?_); refine W_block ?_; (repeat refine W_seq ?_)); refine W_loopS (fun j : Nat => [(5, intsV ts), (7, vi a), (9, spsV l), (11, vi n), (13, vi v), (15, vb (someS x.lo n j)), (16, vb (everyS x.lo n j)), (17, vi (x.lo + (j : Int)))]) (fun _ => ⟨DH H0 d u5 [.obj (houseC h)], M.lg⟩) (fun j => (x.hi - x.lo + 1 - j).toNat) (fun j => (j : Int) ≤ x.hi - x.lo + 1) 0 (by omega) ⟨rfl, rfl, rfl, rfl, rfl, rfl, rfl, hz, trivial⟩ rfl ?_
  intro j hj
  have k1 : -9223372036854775808 ≤ x.lo + (j : Int) + 1 ∧ x.lo + (j : Int) + 1 < 9223372036854775808 := by omega
  have k9 : vi (x.lo + (j : Int) + 1) = vi (x.lo + ((j + 1 : Nat) : Int)) := by rw [show x.lo + ((j + 1 : Nat) : Int) = x.lo + (j : Int) + 1 by omega]
  have hsn : someS x.lo n (j + 1) = (someS x.lo n j || decide (x.lo + (j : Int) ≤ n)) := by
    unfold someS
    by_cases e : x.lo ≤ n
    · rcases j with _ | j
      · simp [e]
      · simp [e]
    · have : ¬ x.lo + (j : Int) ≤ n := by omega
      simp [e, this]
  have hen : everyS x.lo n (j + 1) = (everyS x.lo n j && decide (x.lo + (j : Int) ≤ n)) := by
    unfold everyS
    have e1 : decide (j + 1 = 0) = false := by simp
    have e2 : x.lo + ((j + 1 : Nat) : Int) - 1 = x.lo + (j : Int) := by omega
    rw [e1, e2, Bool.false_or]
    by_cases e : x.lo + (j : Int) ≤ n
    · rcases j with _ | j
      · simp
      · have : x.lo + ((j + 1 : Nat) : Int) - 1 ≤ n := by omega
        rw [decide_eq_true this, decide_eq_true e]; simp
    · rw [decide_eq_false e, Bool.and_false]
  ((repeat refine W_seq ?_); refine W_region0 T_ok ?_)
  by_cases hle : x.lo + (j : Int) ≤ x.hi
  · have k2 : (x.lo + (j : Int) ≤ x.hi) = True := eq_true hle
    simp (maxSteps := 1000000) only [VL, VM, ↓Gd_none, ↓Gd_t, ↓Gd_f, reduceIte, reduceCtorEq, Int.reduceLE, Int.reduceLT, Int.reduceToNat, Int.reduceNeg, Nat.reduceLT, Nat.reduceEqDiff, Nat.reduceAdd, Nat.reduceSub, Nat.reduceMul, Nat.reduceLeDiff, hx', k2]
    ((repeat refine W_seq ?_); refine W_cond (b := true) (by first | rfl | simp only [ev, get_cons, Nat.reduceEqDiff, if_true, if_false, reduceIte]) (fun _ => ?_) (fun h => by cases h))
    ((repeat refine W_seq ?_); refine W_skip ?_)
    simp (maxSteps := 1000000) only [VL, VM, ↓Gd_none, ↓Gd_t, ↓Gd_f, reduceIte, reduceCtorEq, Int.reduceLE, Int.reduceLT, Int.reduceToNat, Int.reduceNeg, Nat.reduceLT, Nat.reduceEqDiff, Nat.reduceAdd, Nat.reduceSub, Nat.reduceMul, Nat.reduceLeDiff]
    ((repeat refine W_seq ?_); refine W_block ?_)
    ((repeat refine W_seq ?_); refine W_region0 T_ok ?_)
    by_cases hb : x.lo + (j : Int) ≤ n
    · have kb : (x.lo + (j : Int) ≤ n) = True := eq_true hb
      rw [decide_eq_true hb, Bool.or_true] at hsn
      rw [decide_eq_true hb, Bool.and_true] at hen
      cases hs : someS x.lo n j
      · cases he : everyS x.lo n j
        · simp (maxSteps := 1000000) only [VL, VM, ↓Gd_none, ↓Gd_t, ↓Gd_f, reduceIte, reduceCtorEq, Int.reduceLE, Int.reduceLT, Int.reduceToNat, Int.reduceNeg, Nat.reduceLT, Nat.reduceEqDiff, Nat.reduceAdd, Nat.reduceSub, Nat.reduceMul, Nat.reduceLeDiff, kb]
          ((repeat refine W_seq ?_); refine W_region0 T_ok ?_)
          simp (maxSteps := 1000000) only [VL, VM, ↓Gd_none, ↓Gd_t, ↓Gd_f, reduceIte, reduceCtorEq, Int.reduceLE, Int.reduceLT, Int.reduceToNat, Int.reduceNeg, Nat.reduceLT, Nat.reduceEqDiff, Nat.reduceAdd, Nat.reduceSub, Nat.reduceMul, Nat.reduceLeDiff, k1]
          refine LoopK.mk (j + 1) (by omega) (by omega) ⟨rfl, rfl, rfl, rfl, rfl, ?_, ?_, k9, trivial⟩ rfl
          · rw [hsn]; rfl
          · rw [hen, he]; rfl
        · simp (maxSteps := 1000000) only [VL, VM, ↓Gd_none, ↓Gd_t, ↓Gd_f, reduceIte, reduceCtorEq, Int.reduceLE, Int.reduceLT, Int.reduceToNat, Int.reduceNeg, Nat.reduceLT, Nat.reduceEqDiff, Nat.reduceAdd, Nat.reduceSub, Nat.reduceMul, Nat.reduceLeDiff, kb]
          ((repeat refine W_seq ?_); refine W_region0 T_ok ?_)
          simp (maxSteps := 1000000) only [VL, VM, ↓Gd_none, ↓Gd_t, ↓Gd_f, reduceIte, reduceCtorEq, Int.reduceLE, Int.reduceLT, Int.reduceToNat, Int.reduceNeg, Nat.reduceLT, Nat.reduceEqDiff, Nat.reduceAdd, Nat.reduceSub, Nat.reduceMul, Nat.reduceLeDiff, k1]
          refine LoopK.mk (j + 1) (by omega) (by omega) ⟨rfl, rfl, rfl, rfl, rfl, ?_, ?_, k9, trivial⟩ rfl
          · rw [hsn]; rfl
          · rw [hen, he]; rfl
      · cases he : everyS x.lo n j
        · simp (maxSteps := 1000000) only [VL, VM, ↓Gd_none, ↓Gd_t, ↓Gd_f, reduceIte, reduceCtorEq, Int.reduceLE, Int.reduceLT, Int.reduceToNat, Int.reduceNeg, Nat.reduceLT, Nat.reduceEqDiff, Nat.reduceAdd, Nat.reduceSub, Nat.reduceMul, Nat.reduceLeDiff, kb]
          ((repeat refine W_seq ?_); refine W_region0 T_ok ?_)
          simp (maxSteps := 1000000) only [VL, VM, ↓Gd_none, ↓Gd_t, ↓Gd_f, reduceIte, reduceCtorEq, Int.reduceLE, Int.reduceLT, Int.reduceToNat, Int.reduceNeg, Nat.reduceLT, Nat.reduceEqDiff, Nat.reduceAdd, Nat.reduceSub, Nat.reduceMul, Nat.reduceLeDiff, k1]
          refine LoopK.mk (j + 1) (by omega) (by omega) ⟨rfl, rfl, rfl, rfl, rfl, ?_, ?_, k9, trivial⟩ rfl
          · rw [hsn]; rfl
          · rw [hen, he]; rfl
        · simp (maxSteps := 1000000) only [VL, VM, ↓Gd_none, ↓Gd_t, ↓Gd_f, reduceIte, reduceCtorEq, Int.reduceLE, Int.reduceLT, Int.reduceToNat, Int.reduceNeg, Nat.reduceLT, Nat.reduceEqDiff, Nat.reduceAdd, Nat.reduceSub, Nat.reduceMul, Nat.reduceLeDiff, kb]
          ((repeat refine W_seq ?_); refine W_region0 T_ok ?_)
          simp (maxSteps := 1000000) only [VL, VM, ↓Gd_none, ↓Gd_t, ↓Gd_f, reduceIte, reduceCtorEq, Int.reduceLE, Int.reduceLT, Int.reduceToNat, Int.reduceNeg, Nat.reduceLT, Nat.reduceEqDiff, Nat.reduceAdd, Nat.reduceSub, Nat.reduceMul, Nat.reduceLeDiff, k1]
          refine LoopK.mk (j + 1) (by omega) (by omega) ⟨rfl, rfl, rfl, rfl, rfl, ?_, ?_, k9, trivial⟩ rfl
          · rw [hsn]; rfl
          · rw [hen, he]; rfl
    · have kb : (x.lo + (j : Int) ≤ n) = False := eq_false hb
      rw [decide_eq_false hb, Bool.or_false] at hsn
      rw [decide_eq_false hb, Bool.and_false] at hen
      cases hs : someS x.lo n j
      · cases he : everyS x.lo n j
        · simp (maxSteps := 1000000) only [VL, VM, ↓Gd_none, ↓Gd_t, ↓Gd_f, reduceIte, reduceCtorEq, Int.reduceLE, Int.reduceLT, Int.reduceToNat, Int.reduceNeg, Nat.reduceLT, Nat.reduceEqDiff, Nat.reduceAdd, Nat.reduceSub, Nat.reduceMul, Nat.reduceLeDiff, kb]
          ((repeat refine W_seq ?_); refine W_region0 T_ok ?_)
          simp (maxSteps := 1000000) only [VL, VM, ↓Gd_none, ↓Gd_t, ↓Gd_f, reduceIte, reduceCtorEq, Int.reduceLE, Int.reduceLT, Int.reduceToNat, Int.reduceNeg, Nat.reduceLT, Nat.reduceEqDiff, Nat.reduceAdd, Nat.reduceSub, Nat.reduceMul, Nat.reduceLeDiff, k1]
          refine LoopK.mk (j + 1) (by omega) (by omega) ⟨rfl, rfl, rfl, rfl, rfl, ?_, ?_, k9, trivial⟩ rfl
          · rw [hsn, hs]; rfl
          · rw [hen]; rfl
        · simp (maxSteps := 1000000) only [VL, VM, ↓Gd_none, ↓Gd_t, ↓Gd_f, reduceIte, reduceCtorEq, Int.reduceLE, Int.reduceLT, Int.reduceToNat, Int.reduceNeg, Nat.reduceLT, Nat.reduceEqDiff, Nat.reduceAdd, Nat.reduceSub, Nat.reduceMul, Nat.reduceLeDiff, kb]
          ((repeat refine W_seq ?_); refine W_region0 T_ok ?_)
          simp (maxSteps := 1000000) only [VL, VM, ↓Gd_none, ↓Gd_t, ↓Gd_f, reduceIte, reduceCtorEq, Int.reduceLE, Int.reduceLT, Int.reduceToNat, Int.reduceNeg, Nat.reduceLT, Nat.reduceEqDiff, Nat.reduceAdd, Nat.reduceSub, Nat.reduceMul, Nat.reduceLeDiff, k1]
          refine LoopK.mk (j + 1) (by omega) (by omega) ⟨rfl, rfl, rfl, rfl, rfl, ?_, ?_, k9, trivial⟩ rfl
          · rw [hsn, hs]; rfl
          · rw [hen]; rfl
      · cases he : everyS x.lo n j
        · simp (maxSteps := 1000000) only [VL, VM, ↓Gd_none, ↓Gd_t, ↓Gd_f, reduceIte, reduceCtorEq, Int.reduceLE, Int.reduceLT, Int.reduceToNat, Int.reduceNeg, Nat.reduceLT, Nat.reduceEqDiff, Nat.reduceAdd, Nat.reduceSub, Nat.reduceMul, Nat.reduceLeDiff, kb]
          ((repeat refine W_seq ?_); refine W_region0 T_ok ?_)
          simp (maxSteps := 1000000) only [VL, VM, ↓Gd_none, ↓Gd_t, ↓Gd_f, reduceIte, reduceCtorEq, Int.reduceLE, Int.reduceLT, Int.reduceToNat, Int.reduceNeg, Nat.reduceLT, Nat.reduceEqDiff, Nat.reduceAdd, Nat.reduceSub, Nat.reduceMul, Nat.reduceLeDiff, k1]
          refine LoopK.mk (j + 1) (by omega) (by omega) ⟨rfl, rfl, rfl, rfl, rfl, ?_, ?_, k9, trivial⟩ rfl
          · rw [hsn, hs]; rfl
          · rw [hen]; rfl
        · simp (maxSteps := 1000000) only [VL, VM, ↓Gd_none, ↓Gd_t, ↓Gd_f, reduceIte, reduceCtorEq, Int.reduceLE, Int.reduceLT, Int.reduceToNat, Int.reduceNeg, Nat.reduceLT, Nat.reduceEqDiff, Nat.reduceAdd, Nat.reduceSub, Nat.reduceMul, Nat.reduceLeDiff, kb]
          ((repeat refine W_seq ?_); refine W_region0 T_ok ?_)
          simp (maxSteps := 1000000) only [VL, VM, ↓Gd_none, ↓Gd_t, ↓Gd_f, reduceIte, reduceCtorEq, Int.reduceLE, Int.reduceLT, Int.reduceToNat, Int.reduceNeg, Nat.reduceLT, Nat.reduceEqDiff, Nat.reduceAdd, Nat.reduceSub, Nat.reduceMul, Nat.reduceLeDiff, k1]
          refine LoopK.mk (j + 1) (by omega) (by omega) ⟨rfl, rfl, rfl, rfl, rfl, ?_, ?_, k9, trivial⟩ rfl
          · rw [hsn, hs]; rfl
          · rw [hen]; rfl
  have k2 : (x.lo + (j : Int) ≤ x.hi) = False := eq_false hle
  have hj3 : (j : Int) = x.hi - x.lo + 1 := by omega
  have hs3 : someS x.lo n j = decide (x.lo ≤ n) := by
    unfold someS
    rw [decide_eq_true (show 0 < j by omega), Bool.true_and]
  have he3 : everyS x.lo n j = decide (x.hi ≤ n) := by
    unfold everyS
    rw [decide_eq_false (show ¬ j = 0 by omega), Bool.false_or, show x.lo + (j : Int) - 1 = x.hi by omega]
  rw [hs3, he3]
  simp (maxSteps := 1000000) only [VL, VM, ↓Gd_none, ↓Gd_t, ↓Gd_f, reduceIte, reduceCtorEq, Int.reduceLE, Int.reduceLT, Int.reduceToNat, Int.reduceNeg, Nat.reduceLT, Nat.reduceEqDiff, Nat.reduceAdd, Nat.reduceSub, Nat.reduceMul, Nat.reduceLeDiff, hx', k2]
  ((repeat refine W_seq ?_); refine W_cond (b := false) (by first | rfl | simp only [ev, get_cons, Nat.reduceEqDiff, if_true, if_false, reduceIte]) (fun h => by cases h) (fun _ => ?_))
  ((repeat refine W_seq ?_); refine W_exit ?_)
  simp (maxSteps := 1000000) only [VL, VM, ↓Gd_none, ↓Gd_t, ↓Gd_f, reduceIte, reduceCtorEq, Int.reduceLE, Int.reduceLT, Int.reduceToNat, Int.reduceNeg, Nat.reduceLT, Nat.reduceEqDiff, Nat.reduceAdd, Nat.reduceSub, Nat.reduceMul, Nat.reduceLeDiff]
  ((repeat refine W_seq ?_); refine W_region0 T_ok ?_)
  by_cases b1 : x.hi ≤ n
  · rw [if_pos b1] at hv1
    have b2 : x.lo ≤ n := by omega
    have q3 : (y ≤ n) = True := eq_true (by omega)
    rw [hv1, decide_eq_true b1, decide_eq_true b2]
    simp (maxSteps := 1000000) only [VL, VM, ↓Gd_none, ↓Gd_t, ↓Gd_f, reduceIte, reduceCtorEq, Int.reduceLE, Int.reduceLT, Int.reduceToNat, Int.reduceNeg, Nat.reduceLT, Nat.reduceEqDiff, Nat.reduceAdd, Nat.reduceSub, Nat.reduceMul, Nat.reduceLeDiff, v_eqBool, hy', q3, beq_self_eq_true]
    apply call_eq (f := 18) (fn := Try.f18) (by kernel_rfl) (by rfl)
    · exact awake_v _
    simp (maxSteps := 1000000) only [VL, VM, ↓Gd_none, ↓Gd_t, ↓Gd_f, reduceIte, reduceCtorEq, Int.reduceLE, Int.reduceLT, Int.reduceToNat, Int.reduceNeg, Nat.reduceLT, Nat.reduceEqDiff, Nat.reduceAdd, Nat.reduceSub, Nat.reduceMul, Nat.reduceLeDiff]
    rw [tail]
    (repeat refine W_seq ?_)
    refine W_ret ?_
    try simp only [thenQ, blockQ]
    refine own_ret1 rfl ?_ (by rfl)
    simp only [get_cons, frz, vtup, Nat.reduceEqDiff, if_true, if_false, reduceIte]
    rfl
  rw [if_neg b1] at hv1
  by_cases b2 : n < x.lo
  · rw [if_pos b2] at hv1
    have b3 : ¬ x.lo ≤ n := by omega
    rw [hv1, decide_eq_false b1, decide_eq_false b3]
    simp (maxSteps := 1000000) only [VL, VM, ↓Gd_none, ↓Gd_t, ↓Gd_f, reduceIte, reduceCtorEq, Int.reduceLE, Int.reduceLT, Int.reduceToNat, Int.reduceNeg, Nat.reduceLT, Nat.reduceEqDiff, Nat.reduceAdd, Nat.reduceSub, Nat.reduceMul, Nat.reduceLeDiff, v_eqBool, hy', beq_self_eq_true]
    apply call_eq (f := 18) (fn := Try.f18) (by kernel_rfl) (by rfl)
    · exact awake_v _
    simp (maxSteps := 1000000) only [VL, VM, ↓Gd_none, ↓Gd_t, ↓Gd_f, reduceIte, reduceCtorEq, Int.reduceLE, Int.reduceLT, Int.reduceToNat, Int.reduceNeg, Nat.reduceLT, Nat.reduceEqDiff, Nat.reduceAdd, Nat.reduceSub, Nat.reduceMul, Nat.reduceLeDiff]
    rw [tail]
    (repeat refine W_seq ?_)
    refine W_ret ?_
    try simp only [thenQ, blockQ]
    refine own_ret1 rfl ?_ (by rfl)
    simp only [get_cons, frz, vtup, Nat.reduceEqDiff, if_true, if_false, reduceIte]
    rfl
  rw [if_neg b2] at hv1
  have b3 : x.lo ≤ n := by omega
  rw [hv1, decide_eq_false b1, decide_eq_true b3]
  simp (maxSteps := 1000000) only [VL, VM, ↓Gd_none, ↓Gd_t, ↓Gd_f, reduceIte, reduceCtorEq, Int.reduceLE, Int.reduceLT, Int.reduceToNat, Int.reduceNeg, Nat.reduceLT, Nat.reduceEqDiff, Nat.reduceAdd, Nat.reduceSub, Nat.reduceMul, Nat.reduceLeDiff, v_eqBool, hy', beq_self_eq_true]
  apply call_eq (f := 18) (fn := Try.f18) (by kernel_rfl) (by rfl)
  · exact awake_v _
  simp (maxSteps := 1000000) only [VL, VM, ↓Gd_none, ↓Gd_t, ↓Gd_f, reduceIte, reduceCtorEq, Int.reduceLE, Int.reduceLT, Int.reduceToNat, Int.reduceNeg, Nat.reduceLT, Nat.reduceEqDiff, Nat.reduceAdd, Nat.reduceSub, Nat.reduceMul, Nat.reduceLeDiff]
  rw [tail]
  (repeat refine W_seq ?_)
  refine W_ret ?_
  try simp only [thenQ, blockQ]
  refine own_ret1 rfl ?_ (by rfl)
  simp only [get_cons, frz, vtup, Nat.reduceEqDiff, if_true, if_false, reduceIte]
  rfl
end Go.Proofs.Ytmagiabapakhcaa.Vm

/- DoorSafe: for every list of numbers the law answers true, and the numbers read afterwards as before. (Vm) -/
namespace Go.Proofs.Ytmagiabapakhcaa.Vm
open Go Go.Proofs Go.ChangeShapes Go.WideShapes Go.ChangeAt Go.RowKit
set_option maxRecDepth 100000 in
theorem safe_lifted (os : Os) (started : os.Started) (H : Type) (enc : TypeId × Value → H) :
    ReturnsInHanded {} Try.checked os 16 .any (Rows.doorSafeSpec.pre6 enc Try.prog Try.f16 Rows.doorSafeRow.domain false) (Rows.doorSafeSpec.post enc Try.prog Try.f16 false true false false) := by
  refine returnsInHanded_of_change (C := Try.checked) law_own started (by kernel_rfl) Try.func16
    (ChangeSpec.witness6 (enc := enc) (C := Try.checked) false ⟨#[], #[.slice none 0 0], []⟩ 8 (by kernel_rfl) (by kernel_rfl) (by kernel_rfl) (by kernel_rfl)) ?_
  intro W base args ds gs before hval hW hcnd _
  exact ints_contract rfl (fun d => ⟨rfl, rfl, rfl⟩) rfl rfl (fun xs hl => safe_law_v xs ⟨[], []⟩ hl) hval hW
theorem safe_holds : Rows.DoorSafeSaid :=
  OpenClaim.holds_of_wide 16 Try.f16 rfl rfl rfl rfl rfl rfl rfl ⟨rfl, rfl, rfl, rfl, rfl⟩ rfl rfl rfl rfl rfl (by kernel_rfl) Try.func16 (by kernel_rfl)
    (of_decide_eq_true (by kernel_rfl)) (by unfold Func.isWrapper; first | (rw [if_pos (by decide +kernel)]; kernel_rfl) | (rw [if_neg (by decide +kernel)]; exact ⟨rfl, rfl⟩))
    (fun os started H enc _ => safe_lifted os started H enc)
end Go.Proofs.Ytmagiabapakhcaa.Vm
namespace Go.Proofs.Ytmagiabapakhcaa
theorem doorSafe_proved : Rows.DoorSafeSaid := Vm.safe_holds
end Go.Proofs.Ytmagiabapakhcaa
