/- VaultBest: for every list of numbers the law answers true, and the numbers read afterwards as before. No conditions. -/
import Derived.Test.YtijcmgfblpokhaaB46
import Derived.Test.YtijcmgfblpokhaaB48
import Derived.Test.YtijcmgfblpokhaaB49
import Derived.Test.YtijcmgfblpokhaaB51
import Derived.Test.YtijcmgfblpokhaaB54
import Derived.Test.YtijcmgfblpokhaaB55
set_option linter.unusedVariables false
set_option linter.unusedSimpArgs false
/- The law of the best layout, on values. (Vm) -/
namespace Go.Proofs.Ytijcmgfblpokhaa.Vm
open Go Go.Proofs
/-- puts, from one on -/
theorem firstB_drop {a b : List Pu} {i : Nat} (h : a.take i = b.take i) : firstB a b = firstB (a.drop i) (b.drop i) := by
  have h1 : a = a.take i ++ a.drop i := (List.take_append_drop i a).symm
  have h2 : b = a.take i ++ b.drop i := by rw [h]; exact (List.take_append_drop i b).symm
  calc firstB a b = firstB (a.take i ++ a.drop i) (a.take i ++ b.drop i) := by rw [← h1, ← h2]
    _ = _ := firstB_append _ _ _
set_option maxRecDepth 100000 in
theorem first_v (a b : List Pu) (M : Mem) (hab : a.length = b.length) (hl : a.length ≤ 1000000) : VC Try.prog 43 [pusV a, pusV b] M (fun r M' => M' = M ∧ r = vb (firstB a b)) := by
  refine VC_own' T_ok (f := 43) (fn := Try.f43) (by kernel_rfl) rfl Try.ntmps43 (by rfl) (by rfl) ?_
  ((repeat refine W_seq ?_); refine W_region0 T_ok ?_)
  simp (maxSteps := 1000000) only [VL, VM, ↓Gd_none, ↓Gd_t, ↓Gd_f, reduceIte, reduceCtorEq, Int.reduceLE, Int.reduceLT, Int.reduceToNat, Int.reduceNeg, Nat.reduceLT, Nat.reduceEqDiff, Nat.reduceAdd, Nat.reduceSub, Nat.reduceMul, Nat.reduceLeDiff]
  ((repeat refine W_seq ?_); refine W_region0 T_ok ?_)
  simp (maxSteps := 1000000) only [VL, VM, ↓Gd_none, ↓Gd_t, ↓Gd_f, reduceIte, reduceCtorEq, Int.reduceLE, Int.reduceLT, Int.reduceToNat, Int.reduceNeg, Nat.reduceLT, Nat.reduceEqDiff, Nat.reduceAdd, Nat.reduceSub, Nat.reduceMul, Nat.reduceLeDiff]
  ((repeat refine W_seq ?_); refine W_block ?_; (repeat refine W_seq ?_)); refine W_loopS (fun s : Nat × List VObj => [(0, pusV a), (1, pusV b), (5, vi s.1)]) (fun s => ⟨M.H ++ s.2, M.lg⟩) (fun s => a.length - s.1) (fun s => s.1 ≤ a.length ∧ a.take s.1 = b.take s.1) (0, []) ⟨Nat.zero_le _, rfl⟩ ⟨rfl, rfl, rfl, trivial⟩ (by simp) ?_
  rintro ⟨i, junk⟩ ⟨hi, htk⟩
  simp only at hi htk
  have k1 : -9223372036854775808 ≤ (i : Int) + 1 ∧ (i : Int) + 1 < 9223372036854775808 := by omega
  ((repeat refine W_seq ?_); refine W_region0 T_ok ?_)
  rcases Nat.lt_or_ge i a.length with hlt | hge
  rotate_left
  · have k2 : ((i : Int) < (a.length : Int)) = False := eq_false (by omega)
    have he : firstB a b = false := by
      rw [firstB_drop htk, List.drop_of_length_le (by omega)]
      rfl
    simp (maxSteps := 1000000) only [VL, VM, ↓Gd_none, ↓Gd_t, ↓Gd_f, reduceIte, reduceCtorEq, Int.reduceLE, Int.reduceLT, Int.reduceToNat, Int.reduceNeg, Nat.reduceLT, Nat.reduceEqDiff, Nat.reduceAdd, Nat.reduceSub, Nat.reduceMul, Nat.reduceLeDiff, k2]
    ((repeat refine W_seq ?_); refine W_cond (b := false) (by first | rfl | simp only [ev, get_cons, Nat.reduceEqDiff, if_true, if_false, reduceIte]) (fun h => by cases h) (fun _ => ?_))
    ((repeat refine W_seq ?_); refine W_exit ?_)
    simp (maxSteps := 1000000) only [VL, VM, ↓Gd_none, ↓Gd_t, ↓Gd_f, reduceIte, reduceCtorEq, Int.reduceLE, Int.reduceLT, Int.reduceToNat, Int.reduceNeg, Nat.reduceLT, Nat.reduceEqDiff, Nat.reduceAdd, Nat.reduceSub, Nat.reduceMul, Nat.reduceLeDiff]
    ((repeat refine W_seq ?_); refine W_region0 T_ok ?_)
    simp (maxSteps := 1000000) only [VL, VM, ↓Gd_none, ↓Gd_t, ↓Gd_f, reduceIte, reduceCtorEq, Int.reduceLE, Int.reduceLT, Int.reduceToNat, Int.reduceNeg, Nat.reduceLT, Nat.reduceEqDiff, Nat.reduceAdd, Nat.reduceSub, Nat.reduceMul, Nat.reduceLeDiff]
    (repeat refine W_seq ?_)
    refine W_ret ?_
    try simp only [thenQ, blockQ]
    refine own_ret1 rfl ?_ (by rfl)
    simp only [get_cons, frz, vtup, Nat.reduceEqDiff, if_true, if_false, reduceIte]
    rw [he]
  have k2 : ((i : Int) < (a.length : Int)) = True := eq_true (by omega)
  have hx := List.getElem?_eq_getElem hlt
  have hy := List.getElem?_eq_getElem (show i < b.length by omega)
  have hd : firstB a b = if a[i] = b[i] then firstB (a.drop (i + 1)) (b.drop (i + 1)) else puLt a[i] b[i] := by
    rw [firstB_drop htk, List.drop_eq_getElem_cons hlt, List.drop_eq_getElem_cons (show i < b.length by omega)]; rfl
  have hx' := map_at (f := puP) hx
  have hy' := map_at (f := puP) hy
  have hnext : a[i] = b[i] → a.take (i + 1) = b.take (i + 1) := fun e => by
    rw [List.take_add_one, List.take_add_one, hx, hy, htk, e]
  generalize a[i] = p at hx' hd hnext
  generalize b[i] = q at hy' hd hnext
  obtain ⟨⟨px, py⟩, pk⟩ := p
  obtain ⟨⟨qx, qy⟩, qk⟩ := q
  simp (maxSteps := 1000000) only [VL, VM, ↓Gd_none, ↓Gd_t, ↓Gd_f, reduceIte, reduceCtorEq, Int.reduceLE, Int.reduceLT, Int.reduceToNat, Int.reduceNeg, Nat.reduceLT, Nat.reduceEqDiff, Nat.reduceAdd, Nat.reduceSub, Nat.reduceMul, Nat.reduceLeDiff, k2]
  ((repeat refine W_seq ?_); refine W_cond (b := true) (by first | rfl | simp only [ev, get_cons, Nat.reduceEqDiff, if_true, if_false, reduceIte]) (fun _ => ?_) (fun h => by cases h))
  ((repeat refine W_seq ?_); refine W_skip ?_)
  simp (maxSteps := 1000000) only [VL, VM, ↓Gd_none, ↓Gd_t, ↓Gd_f, reduceIte, reduceCtorEq, Int.reduceLE, Int.reduceLT, Int.reduceToNat, Int.reduceNeg, Nat.reduceLT, Nat.reduceEqDiff, Nat.reduceAdd, Nat.reduceSub, Nat.reduceMul, Nat.reduceLeDiff]
  ((repeat refine W_seq ?_); refine W_block ?_)
  (repeat refine W_seq ?_)
  refine W_drawP T_ok [VObj.obj [vi 0, vi 0, vi 0], VObj.obj [vi 0, vi 0, vi 0]] (by kernel_rfl) (by kernel_rfl) ?_
  generalize hi : mkPlan _ = infs
  cbv at hi
  subst hi
  simp (maxSteps := 1000000) only [VL, VM, ↓Gd_none, ↓Gd_t, ↓Gd_f, reduceIte, reduceCtorEq, Int.reduceLE, Int.reduceLT, Int.reduceToNat, Int.reduceNeg, Nat.reduceLT, Nat.reduceEqDiff, Nat.reduceAdd, Nat.reduceSub, Nat.reduceMul, Nat.reduceLeDiff, hx', hy']
  ((repeat refine W_seq ?_); refine W_block ?_)
  ((repeat refine W_seq ?_); refine W_region0 T_ok ?_)
  by_cases e1 : py = qy
  rotate_left
  · have hf : firstB a b = decide (py < qy) := by
      rw [hd, if_neg (by simp [e1])]
      unfold puLt
      simp [e1]
    simp (maxSteps := 1000000) only [VL, VM, ↓Gd_none, ↓Gd_t, ↓Gd_f, reduceIte, reduceCtorEq, Int.reduceLE, Int.reduceLT, Int.reduceToNat, Int.reduceNeg, Nat.reduceLT, Nat.reduceEqDiff, Nat.reduceAdd, Nat.reduceSub, Nat.reduceMul, Nat.reduceLeDiff, eq_false e1]
    ((repeat refine W_seq ?_); refine W_cond (b := true) (by first | rfl | simp only [ev, get_cons, Nat.reduceEqDiff, if_true, if_false, reduceIte]) (fun _ => ?_) (fun h => by cases h))
    ((repeat refine W_seq ?_); refine W_region0 T_ok ?_)
    simp (maxSteps := 1000000) only [VL, VM, ↓Gd_none, ↓Gd_t, ↓Gd_f, reduceIte, reduceCtorEq, Int.reduceLE, Int.reduceLT, Int.reduceToNat, Int.reduceNeg, Nat.reduceLT, Nat.reduceEqDiff, Nat.reduceAdd, Nat.reduceSub, Nat.reduceMul, Nat.reduceLeDiff]
    (repeat refine W_seq ?_)
    refine W_ret ?_
    try simp only [thenQ, blockQ]
    refine own_ret1 rfl ?_ (by rfl)
    simp only [get_cons, frz, vtup, Nat.reduceEqDiff, if_true, if_false, reduceIte]
    rw [hf]
  subst e1
  simp (maxSteps := 1000000) only [VL, VM, ↓Gd_none, ↓Gd_t, ↓Gd_f, reduceIte, reduceCtorEq, Int.reduceLE, Int.reduceLT, Int.reduceToNat, Int.reduceNeg, Nat.reduceLT, Nat.reduceEqDiff, Nat.reduceAdd, Nat.reduceSub, Nat.reduceMul, Nat.reduceLeDiff, eq_self, decide_true, Bool.not_true]
  ((repeat refine W_seq ?_); refine W_cond (b := false) (by first | rfl | simp only [ev, get_cons, Nat.reduceEqDiff, if_true, if_false, reduceIte]) (fun h => by cases h) (fun _ => ?_))
  ((repeat refine W_seq ?_); refine W_region0 T_ok ?_)
  by_cases e2 : px = qx
  rotate_left
  · have hf : firstB a b = decide (px < qx) := by
      rw [hd, if_neg (by simp [e2])]
      unfold puLt
      simp [e2]
    simp (maxSteps := 1000000) only [VL, VM, ↓Gd_none, ↓Gd_t, ↓Gd_f, reduceIte, reduceCtorEq, Int.reduceLE, Int.reduceLT, Int.reduceToNat, Int.reduceNeg, Nat.reduceLT, Nat.reduceEqDiff, Nat.reduceAdd, Nat.reduceSub, Nat.reduceMul, Nat.reduceLeDiff, eq_false e2]
    ((repeat refine W_seq ?_); refine W_cond (b := true) (by first | rfl | simp only [ev, get_cons, Nat.reduceEqDiff, if_true, if_false, reduceIte]) (fun _ => ?_) (fun h => by cases h))
    ((repeat refine W_seq ?_); refine W_region0 T_ok ?_)
    simp (maxSteps := 1000000) only [VL, VM, ↓Gd_none, ↓Gd_t, ↓Gd_f, reduceIte, reduceCtorEq, Int.reduceLE, Int.reduceLT, Int.reduceToNat, Int.reduceNeg, Nat.reduceLT, Nat.reduceEqDiff, Nat.reduceAdd, Nat.reduceSub, Nat.reduceMul, Nat.reduceLeDiff]
    (repeat refine W_seq ?_)
    refine W_ret ?_
    try simp only [thenQ, blockQ]
    refine own_ret1 rfl ?_ (by rfl)
    simp only [get_cons, frz, vtup, Nat.reduceEqDiff, if_true, if_false, reduceIte]
    rw [hf]
  subst e2
  simp (maxSteps := 1000000) only [VL, VM, ↓Gd_none, ↓Gd_t, ↓Gd_f, reduceIte, reduceCtorEq, Int.reduceLE, Int.reduceLT, Int.reduceToNat, Int.reduceNeg, Nat.reduceLT, Nat.reduceEqDiff, Nat.reduceAdd, Nat.reduceSub, Nat.reduceMul, Nat.reduceLeDiff, eq_self, decide_true, Bool.not_true]
  ((repeat refine W_seq ?_); refine W_cond (b := false) (by first | rfl | simp only [ev, get_cons, Nat.reduceEqDiff, if_true, if_false, reduceIte]) (fun h => by cases h) (fun _ => ?_))
  ((repeat refine W_seq ?_); refine W_region0 T_ok ?_)
  by_cases e3 : pk = qk
  rotate_left
  · have hf : firstB a b = decide (pk < qk) := by
      rw [hd, if_neg (by simp [e3])]
      unfold puLt
      simp
    simp (maxSteps := 1000000) only [VL, VM, ↓Gd_none, ↓Gd_t, ↓Gd_f, reduceIte, reduceCtorEq, Int.reduceLE, Int.reduceLT, Int.reduceToNat, Int.reduceNeg, Nat.reduceLT, Nat.reduceEqDiff, Nat.reduceAdd, Nat.reduceSub, Nat.reduceMul, Nat.reduceLeDiff, eq_false e3]
    ((repeat refine W_seq ?_); refine W_cond (b := true) (by first | rfl | simp only [ev, get_cons, Nat.reduceEqDiff, if_true, if_false, reduceIte]) (fun _ => ?_) (fun h => by cases h))
    ((repeat refine W_seq ?_); refine W_region0 T_ok ?_)
    simp (maxSteps := 1000000) only [VL, VM, ↓Gd_none, ↓Gd_t, ↓Gd_f, reduceIte, reduceCtorEq, Int.reduceLE, Int.reduceLT, Int.reduceToNat, Int.reduceNeg, Nat.reduceLT, Nat.reduceEqDiff, Nat.reduceAdd, Nat.reduceSub, Nat.reduceMul, Nat.reduceLeDiff]
    (repeat refine W_seq ?_)
    refine W_ret ?_
    try simp only [thenQ, blockQ]
    refine own_ret1 rfl ?_ (by rfl)
    simp only [get_cons, frz, vtup, Nat.reduceEqDiff, if_true, if_false, reduceIte]
    rw [hf]
  subst e3
  simp (maxSteps := 1000000) only [VL, VM, ↓Gd_none, ↓Gd_t, ↓Gd_f, reduceIte, reduceCtorEq, Int.reduceLE, Int.reduceLT, Int.reduceToNat, Int.reduceNeg, Nat.reduceLT, Nat.reduceEqDiff, Nat.reduceAdd, Nat.reduceSub, Nat.reduceMul, Nat.reduceLeDiff, eq_self, decide_true, Bool.not_true]
  ((repeat refine W_seq ?_); refine W_cond (b := false) (by first | rfl | simp only [ev, get_cons, Nat.reduceEqDiff, if_true, if_false, reduceIte]) (fun h => by cases h) (fun _ => ?_))
  ((repeat refine W_seq ?_); refine W_skip ?_)
  simp (maxSteps := 1000000) only [VL, VM, ↓Gd_none, ↓Gd_t, ↓Gd_f, reduceIte, reduceCtorEq, Int.reduceLE, Int.reduceLT, Int.reduceToNat, Int.reduceNeg, Nat.reduceLT, Nat.reduceEqDiff, Nat.reduceAdd, Nat.reduceSub, Nat.reduceMul, Nat.reduceLeDiff]
  ((repeat refine W_seq ?_); refine W_region0 T_ok ?_)
  simp (maxSteps := 1000000) only [VL, VM, ↓Gd_none, ↓Gd_t, ↓Gd_f, reduceIte, reduceCtorEq, Int.reduceLE, Int.reduceLT, Int.reduceToNat, Int.reduceNeg, Nat.reduceLT, Nat.reduceEqDiff, Nat.reduceAdd, Nat.reduceSub, Nat.reduceMul, Nat.reduceLeDiff, k1]
  refine LoopK.mk (i + 1, junk ++ [.obj [vi px, vi py, vi pk], .obj [vi px, vi py, vi pk]]) (by simp only; omega) ⟨by simp only; omega, hnext rfl⟩ ⟨rfl, rfl, rfl, trivial⟩ (by simp)
/-! ### how many layouts there are -/
theorem flat_le {α : Type} (f : Nat → List α) (B : Nat) : ∀ n, (∀ k, k < n → (f k).length ≤ B) → ((List.range n).flatMap f).length ≤ n * B
  | 0, _ => by simp
  | n + 1, h => by
    have := flat_le f B n fun k hk => h k (by omega)
    have h1 := h n (by omega)
    rw [List.range_succ, List.flatMap_append, List.length_append, Nat.succ_mul]
    simp only [List.flatMap_cons, List.flatMap_nil, List.append_nil]
    omega
theorem lay_count (h : Ha) : ∀ (cs : List Pl) (l : List Pu), (layL h cs l).length ≤ (h.kinds.length + 1) ^ (cs.filter fun c => !hasPl h.shut c).length
  | [], l => by simp [layL]
  | c :: cs, l => by
    have h1 := lay_count h cs l
    simp only [layL]
    rw [List.length_append]
    cases hc : hasPl h.shut c with
    | true =>
      have hz : ((List.range h.kinds.length).flatMap fun k : Nat => if allowedB h (l ++ [⟨c, (k : Int)⟩]) then layL h cs (l ++ [⟨c, (k : Int)⟩]) else []).length ≤ h.kinds.length * 0 := by
        refine flat_le _ 0 _ fun k hk => ?_
        have : allowedB h (l ++ [⟨c, (k : Int)⟩]) = false := by
          cases ha : allowedB h (l ++ [⟨c, (k : Int)⟩]) with
          | false => rfl
          | true =>
            have := (allowedB_iff.1 ha).1.2.1 ⟨c, (k : Int)⟩ (by simp)
            unfold ownB at this
            simp [hc] at this
        rw [this]; simp
      rw [List.filter_cons, hc]
      simp only [Bool.not_true, Bool.false_eq_true, if_false]
      omega
    | false =>
      have hz : ((List.range h.kinds.length).flatMap fun k : Nat => if allowedB h (l ++ [⟨c, (k : Int)⟩]) then layL h cs (l ++ [⟨c, (k : Int)⟩]) else []).length ≤ h.kinds.length * (h.kinds.length + 1) ^ (cs.filter fun c => !hasPl h.shut c).length := by
        refine flat_le _ _ _ fun k hk => ?_
        split
        · exact lay_count h cs _
        · exact Nat.zero_le _
      rw [List.filter_cons, hc]
      simp only [Bool.not_false, if_true, List.length_cons]
      rw [Nat.pow_succ, Nat.mul_comm, Nat.succ_mul]
      omega
theorem lay_bound {h : Ha} {n k : Nat} (ho : (openL h).length ≤ n) (hk : h.kinds.length ≤ k) (hn : (k + 1) ^ n ≤ 1000000) : (layL h (placesL h) []).length ≤ 1000000 := by
  have h1 := lay_count h (placesL h) []
  have h2 : (h.kinds.length + 1) ^ ((placesL h).filter fun c => !hasPl h.shut c).length ≤ (k + 1) ^ n := by
    refine Nat.le_trans (Nat.pow_le_pow_left (by omega) _) (Nat.pow_le_pow_right (by omega) ho)
  omega
theorem InA.lay {h : Ha} {x : List Pu} (a : InA h x) (hv : hallErr h = 0) : layoutErr h x = 0 := layout_ok.2 ⟨hv, layErr_zero.2 (allowedB_iff.1 a.1).1⟩
theorem InA.ver {h : Ha} {x : List Pu} (a : InA h x) : verdictOf h x = 1 := (allowedB_iff.1 a.1).2
theorem InA.len {h : Ha} {x : List Pu} (a : InA h x) : x.length ≤ 24 := (allowedB_iff.1 a.1).1.1
set_option maxHeartbeats 2000000 in
set_option maxRecDepth 100000 in
theorem best_law_v (awake : ∀ M, VC Try.prog 15 [] M (fun r M' => M' = M ∧ r = vb true)) (xs : List Int) (M : Mem) (hl : xs.length ≤ maxLen) : VC Try.prog 8 [intsV xs] M (fun r M' => M' = M ∧ r = vb true) := by
  refine VC_own' T_ok (f := 8) (fn := Try.f8) (by kernel_rfl) rfl Try.ntmps8 (by rfl) (by rfl) ?_
  ((repeat refine W_seq ?_); refine W_region0 T_ok ?_)
  simp (maxSteps := 1000000) only [VL, VM, ↓Gd_none, ↓Gd_t, ↓Gd_f, reduceIte, reduceCtorEq, Int.reduceLE, Int.reduceLT, Int.reduceToNat, Int.reduceNeg, Nat.reduceLT, Nat.reduceEqDiff, Nat.reduceAdd, Nat.reduceSub, Nat.reduceMul, Nat.reduceLeDiff]
  ((repeat refine W_seq ?_); refine W_region0 T_ok ?_)
  simp (maxSteps := 1000000) only [VL, VM, ↓Gd_none, ↓Gd_t, ↓Gd_f, reduceIte, reduceCtorEq, Int.reduceLE, Int.reduceLT, Int.reduceToNat, Int.reduceNeg, Nat.reduceLT, Nat.reduceEqDiff, Nat.reduceAdd, Nat.reduceSub, Nat.reduceMul, Nat.reduceLeDiff]
  apply call_eq (f := 17) (fn := Try.f17) (by kernel_rfl) (by rfl)
  · exact dieOf_v xs M hl
  obtain ⟨H0, hH0⟩ : ∃ H0, H0 = M.H ++ [VObj.dead] := ⟨_, rfl⟩
  obtain ⟨d, hdd⟩ : ∃ d, d = M.H.length := ⟨_, rfl⟩
  have hd : d < H0.length := by rw [hH0, hdd]; simp
  have hlen0 : H0.length = M.H.length + 1 := by rw [hH0]; simp
  rw [← hH0, ← hdd]
  have tail : ∀ u L, DH H0 d u L = M.H ++ (.obj [uv u] :: L) := fun u L => by rw [hH0, hdd]; exact DH_tail M u L
  generalize dieU xs = u0
  simp (maxSteps := 1000000) only [VL, VM, ↓Gd_none, ↓Gd_t, ↓Gd_f, reduceIte, reduceCtorEq, Int.reduceLE, Int.reduceLT, Int.reduceToNat, Int.reduceNeg, Nat.reduceLT, Nat.reduceEqDiff, Nat.reduceAdd, Nat.reduceSub, Nat.reduceMul, Nat.reduceLeDiff]
  refine fn_call (f := 16) (fn := Try.f16) (by kernel_rfl) (by rfl) ?_
  refine (hallOf_v hd u0 M.lg 3 2 2 (by omega) (by omega) (by omega)).mono ?_
  rintro _ _ ⟨h, u1, wd, dp, rfl, rfl, hG, hW, hD, hN⟩
  have hv := hG.ok
  have V := VH.of hv
  have F := hG.fin
  have hwd := hG.w
  have hdp := hG.d
  simp (maxSteps := 1000000) only [VL, VM, ↓Gd_none, ↓Gd_t, ↓Gd_f, reduceIte, reduceCtorEq, Int.reduceLE, Int.reduceLT, Int.reduceToNat, Int.reduceNeg, Nat.reduceLT, Nat.reduceEqDiff, Nat.reduceAdd, Nat.reduceSub, Nat.reduceMul, Nat.reduceLeDiff, DH_app hd, DH_len, DH_len0, DH_get hd, DH_get0 hd, DH_set hd, DH_set0 hd, DH_setd, DH_die hd]
  rw [tail, hlen0]
  have hol : (openL h).length ≤ 6 := by
    have h1 : (openL h).length ≤ (placesL h).length := List.length_filter_le _ _
    have h2 : (placesL h).length = dp * wd := by
      unfold placesL
      rw [rowsOf_len, hwd, hdp]; rfl
    have h3 : dp * wd ≤ 2 * 3 := Nat.mul_le_mul (by omega) (by omega)
    omega
  have hbe : bestErr h = 0 := by unfold bestErr; rw [if_neg (by simp [hv]), if_neg (by omega)]
  have hlb : (layL h (placesL h) []).length ≤ 1000000 := lay_bound (n := 6) (k := 2) hol (by omega) (by decide)
  obtain ⟨_, bA, bB⟩ := best_spec V
  have hbm : bestL h ∈ layL h (placesL h) [] := (mem_lay_all V).2 bA
  have hall : ∀ x ∈ layL h (placesL h) [], InA h x := fun x hx => (mem_lay_all V).1 hx
  ((repeat refine W_seq ?_); refine W_region0 T_ok ?_)
  simp (maxSteps := 1000000) only [VL, VM, ↓Gd_none, ↓Gd_t, ↓Gd_f, reduceIte, reduceCtorEq, Int.reduceLE, Int.reduceLT, Int.reduceToNat, Int.reduceNeg, Nat.reduceLT, Nat.reduceEqDiff, Nat.reduceAdd, Nat.reduceSub, Nat.reduceMul, Nat.reduceLeDiff]
  apply call_eq (f := 19) (fn := Try.f19) (by kernel_rfl) (by rfl)
  · exact best_vm h _ F
  rw [show bestR h = pusV (bestL h) from if_pos hbe, hbe]
  have hRL := fun M => refLayouts_v h V 0 0 M hlb
  generalize bestL h = best at bA bB hbm
  generalize layL h (placesL h) [] = all at hlb hbm hall hRL
  simp (maxSteps := 1000000) only [VL, VM, ↓Gd_none, ↓Gd_t, ↓Gd_f, reduceIte, reduceCtorEq, Int.reduceLE, Int.reduceLT, Int.reduceToNat, Int.reduceNeg, Nat.reduceLT, Nat.reduceEqDiff, Nat.reduceAdd, Nat.reduceSub, Nat.reduceMul, Nat.reduceLeDiff]
  ((repeat refine W_seq ?_); refine W_region0 T_ok ?_)
  simp (maxSteps := 1000000) only [VL, VM, ↓Gd_none, ↓Gd_t, ↓Gd_f, reduceIte, reduceCtorEq, Int.reduceLE, Int.reduceLT, Int.reduceToNat, Int.reduceNeg, Nat.reduceLT, Nat.reduceEqDiff, Nat.reduceAdd, Nat.reduceSub, Nat.reduceMul, Nat.reduceLeDiff]
  apply call_eq (f := 25) (fn := Try.f25) (by kernel_rfl) (by rfl)
  · exact Bears_vm h best _ F (by have := bA.len; omega)
  rw [show bearsOut h best = 1 from (if_pos (bA.lay hv)).trans bA.ver, bA.lay hv]
  simp (maxSteps := 1000000) only [VL, VM, ↓Gd_none, ↓Gd_t, ↓Gd_f, reduceIte, reduceCtorEq, Int.reduceLE, Int.reduceLT, Int.reduceToNat, Int.reduceNeg, Nat.reduceLT, Nat.reduceEqDiff, Nat.reduceAdd, Nat.reduceSub, Nat.reduceMul, Nat.reduceLeDiff]
  ((repeat refine W_seq ?_); refine W_region0 T_ok ?_)
  simp (maxSteps := 1000000) only [VL, VM, ↓Gd_none, ↓Gd_t, ↓Gd_f, reduceIte, reduceCtorEq, Int.reduceLE, Int.reduceLT, Int.reduceToNat, Int.reduceNeg, Nat.reduceLT, Nat.reduceEqDiff, Nat.reduceAdd, Nat.reduceSub, Nat.reduceMul, Nat.reduceLeDiff]
  apply call_eq (f := 34) (fn := Try.f34) (by kernel_rfl) (by rfl)
  · exact Earns_vm h best _ F (by have := bA.len; omega)
  rw [show earnsR h best = rentOf h best from if_pos (bA.lay hv), bA.lay hv]
  simp (maxSteps := 1000000) only [VL, VM, ↓Gd_none, ↓Gd_t, ↓Gd_f, reduceIte, reduceCtorEq, Int.reduceLE, Int.reduceLT, Int.reduceToNat, Int.reduceNeg, Nat.reduceLT, Nat.reduceEqDiff, Nat.reduceAdd, Nat.reduceSub, Nat.reduceMul, Nat.reduceLeDiff]
  ((repeat refine W_seq ?_); refine W_region0 T_ok ?_)
  simp (maxSteps := 1000000) only [VL, VM, ↓Gd_none, ↓Gd_t, ↓Gd_f, reduceIte, reduceCtorEq, Int.reduceLE, Int.reduceLT, Int.reduceToNat, Int.reduceNeg, Nat.reduceLT, Nat.reduceEqDiff, Nat.reduceAdd, Nat.reduceSub, Nat.reduceMul, Nat.reduceLeDiff, eq_self, decide_true, Bool.not_true]
  ((repeat refine W_seq ?_); refine W_cond (b := false) (by first | rfl | simp only [ev, get_cons, Nat.reduceEqDiff, if_true, if_false, reduceIte]) (fun h => by cases h) (fun _ => ?_))
  ((repeat refine W_seq ?_); refine W_skip ?_)
  simp (maxSteps := 1000000) only [VL, VM, ↓Gd_none, ↓Gd_t, ↓Gd_f, reduceIte, reduceCtorEq, Int.reduceLE, Int.reduceLT, Int.reduceToNat, Int.reduceNeg, Nat.reduceLT, Nat.reduceEqDiff, Nat.reduceAdd, Nat.reduceSub, Nat.reduceMul, Nat.reduceLeDiff]
  ((repeat refine W_seq ?_); refine W_region0 T_ok ?_)
  simp (maxSteps := 1000000) only [VL, VM, ↓Gd_none, ↓Gd_t, ↓Gd_f, reduceIte, reduceCtorEq, Int.reduceLE, Int.reduceLT, Int.reduceToNat, Int.reduceNeg, Nat.reduceLT, Nat.reduceEqDiff, Nat.reduceAdd, Nat.reduceSub, Nat.reduceMul, Nat.reduceLeDiff]
  refine fn_call2 (f := 42) (fn := Try.f42) (by kernel_rfl) (by rfl) ?_
  refine (hRL _).mono ?_
  rintro _ _ ⟨⟨X, rfl⟩, rfl⟩
  simp (maxSteps := 1000000) only [VL, VM, ↓Gd_none, ↓Gd_t, ↓Gd_f, reduceIte, reduceCtorEq, Int.reduceLE, Int.reduceLT, Int.reduceToNat, Int.reduceNeg, Nat.reduceLT, Nat.reduceEqDiff, Nat.reduceAdd, Nat.reduceSub, Nat.reduceMul, Nat.reduceLeDiff]
  ((repeat refine W_seq ?_); refine W_region0 T_ok ?_)
  simp (maxSteps := 1000000) only [VL, VM, ↓Gd_none, ↓Gd_t, ↓Gd_f, reduceIte, reduceCtorEq, Int.reduceLE, Int.reduceLT, Int.reduceToNat, Int.reduceNeg, Nat.reduceLT, Nat.reduceEqDiff, Nat.reduceAdd, Nat.reduceSub, Nat.reduceMul, Nat.reduceLeDiff]
  ((repeat refine W_seq ?_); refine W_region0 T_ok ?_)
  simp (maxSteps := 1000000) only [VL, VM, ↓Gd_none, ↓Gd_t, ↓Gd_f, reduceIte, reduceCtorEq, Int.reduceLE, Int.reduceLT, Int.reduceToNat, Int.reduceNeg, Nat.reduceLT, Nat.reduceEqDiff, Nat.reduceAdd, Nat.reduceSub, Nat.reduceMul, Nat.reduceLeDiff]
  have hbl := bA.len
  ((repeat refine W_seq ?_); refine W_block ?_; (repeat refine W_seq ?_)); refine W_loopS (fun i : Nat => [(3, .ptr (M.H.length + 1) 0), (4, pusV best), (8, vi (rentOf h best)), (10, .so (M.H.length + 2) 1 (all.map lyP)), (11, vb ((all.take i).any fun x => decide (x = best))), (12, vi i)]) (fun _ => ⟨M.H ++ (.obj [uv u1] :: .obj (hallC h) :: .clm all.length 1 :: X), M.lg⟩) (fun i => all.length - i) (fun i => i ≤ all.length) 0 (Nat.zero_le _) ⟨rfl, rfl, rfl, rfl, rfl, rfl, trivial⟩ rfl ?_
  rintro i hi
  have k1 : -9223372036854775808 ≤ (i : Int) + 1 ∧ (i : Int) + 1 < 9223372036854775808 := by omega
  ((repeat refine W_seq ?_); refine W_region0 T_ok ?_)
  rcases Nat.lt_or_ge i all.length with hlt | hge
  rotate_left
  · have k2 : ((i : Int) < (all.length : Int)) = False := eq_false (by omega)
    obtain rfl : i = all.length := by omega
    have hfound : (all.take all.length).any (fun x => decide (x = best)) = true := by
      rw [List.take_length, List.any_eq_true]
      exact ⟨best, hbm, decide_eq_true rfl⟩
    rw [hfound]
    simp (maxSteps := 1000000) only [VL, VM, ↓Gd_none, ↓Gd_t, ↓Gd_f, reduceIte, reduceCtorEq, Int.reduceLE, Int.reduceLT, Int.reduceToNat, Int.reduceNeg, Nat.reduceLT, Nat.reduceEqDiff, Nat.reduceAdd, Nat.reduceSub, Nat.reduceMul, Nat.reduceLeDiff, k2]
    ((repeat refine W_seq ?_); refine W_cond (b := false) (by first | rfl | simp only [ev, get_cons, Nat.reduceEqDiff, if_true, if_false, reduceIte]) (fun h => by cases h) (fun _ => ?_))
    ((repeat refine W_seq ?_); refine W_exit ?_)
    simp (maxSteps := 1000000) only [VL, VM, ↓Gd_none, ↓Gd_t, ↓Gd_f, reduceIte, reduceCtorEq, Int.reduceLE, Int.reduceLT, Int.reduceToNat, Int.reduceNeg, Nat.reduceLT, Nat.reduceEqDiff, Nat.reduceAdd, Nat.reduceSub, Nat.reduceMul, Nat.reduceLeDiff]
    ((repeat refine W_seq ?_); refine W_region0 T_ok ?_)
    simp (maxSteps := 1000000) only [VL, VM, ↓Gd_none, ↓Gd_t, ↓Gd_f, reduceIte, reduceCtorEq, Int.reduceLE, Int.reduceLT, Int.reduceToNat, Int.reduceNeg, Nat.reduceLT, Nat.reduceEqDiff, Nat.reduceAdd, Nat.reduceSub, Nat.reduceMul, Nat.reduceLeDiff]
    apply call_eq (f := 15) (fn := Try.f15) (by kernel_rfl) (by rfl)
    · exact awake _
    simp (maxSteps := 1000000) only [VL, VM, ↓Gd_none, ↓Gd_t, ↓Gd_f, reduceIte, reduceCtorEq, Int.reduceLE, Int.reduceLT, Int.reduceToNat, Int.reduceNeg, Nat.reduceLT, Nat.reduceEqDiff, Nat.reduceAdd, Nat.reduceSub, Nat.reduceMul, Nat.reduceLeDiff]
    (repeat refine W_seq ?_)
    refine W_ret ?_
    try simp only [thenQ, blockQ]
    refine own_ret1 rfl ?_ (by rfl)
    simp only [get_cons, frz, vtup, Nat.reduceEqDiff, if_true, if_false, reduceIte]
  have k2 : ((i : Int) < (all.length : Int)) = True := eq_true (by omega)
  have hx := List.getElem?_eq_getElem hlt
  have hA := hall _ (List.getElem_mem hlt)
  have hany : (all.take (i + 1)).any (fun x => decide (x = best)) = ((all.take i).any (fun x => decide (x = best)) || decide (all[i] = best)) := by
    rw [List.take_add_one, hx, List.any_append]; simp
  generalize all[i] = x at hx hA hany
  have hx' := map_at (f := lyP) hx
  have hxl := hA.len
  have hB := bB x hA
  simp (maxSteps := 1000000) only [VL, VM, ↓Gd_none, ↓Gd_t, ↓Gd_f, reduceIte, reduceCtorEq, Int.reduceLE, Int.reduceLT, Int.reduceToNat, Int.reduceNeg, Nat.reduceLT, Nat.reduceEqDiff, Nat.reduceAdd, Nat.reduceSub, Nat.reduceMul, Nat.reduceLeDiff, k2]
  ((repeat refine W_seq ?_); refine W_cond (b := true) (by first | rfl | simp only [ev, get_cons, Nat.reduceEqDiff, if_true, if_false, reduceIte]) (fun _ => ?_) (fun h => by cases h))
  ((repeat refine W_seq ?_); refine W_skip ?_)
  simp (maxSteps := 1000000) only [VL, VM, ↓Gd_none, ↓Gd_t, ↓Gd_f, reduceIte, reduceCtorEq, Int.reduceLE, Int.reduceLT, Int.reduceToNat, Int.reduceNeg, Nat.reduceLT, Nat.reduceEqDiff, Nat.reduceAdd, Nat.reduceSub, Nat.reduceMul, Nat.reduceLeDiff]
  ((repeat refine W_seq ?_); refine W_block ?_)
  (repeat refine W_seq ?_)
  refine W_drawP T_ok [] (by kernel_rfl) (by kernel_rfl) ?_
  generalize hi : mkPlan _ = infs
  cbv at hi
  subst hi
  simp (maxSteps := 1000000) only [VL, VM, ↓Gd_none, ↓Gd_t, ↓Gd_f, reduceIte, reduceCtorEq, Int.reduceLE, Int.reduceLT, Int.reduceToNat, Int.reduceNeg, Nat.reduceLT, Nat.reduceEqDiff, Nat.reduceAdd, Nat.reduceSub, Nat.reduceMul, Nat.reduceLeDiff, hx']
  apply call_d (f := 34) (fn := Try.f34) (by kernel_rfl) (by rfl)
  · exact Earns_vm h x _ F (by omega)
  rw [show earnsR h x = rentOf h x from if_pos (hA.lay hv), hA.lay hv]
  simp (maxSteps := 1000000) only [VL, VM, ↓Gd_none, ↓Gd_t, ↓Gd_f, reduceIte, reduceCtorEq, Int.reduceLE, Int.reduceLT, Int.reduceToNat, Int.reduceNeg, Nat.reduceLT, Nat.reduceEqDiff, Nat.reduceAdd, Nat.reduceSub, Nat.reduceMul, Nat.reduceLeDiff, hx']
  (repeat refine W_seq ?_)
  refine W_drawP T_ok [] (by kernel_rfl) (by kernel_rfl) ?_
  generalize hi : mkPlan _ = infs
  cbv at hi
  subst hi
  simp (maxSteps := 1000000) only [VL, VM, ↓Gd_none, ↓Gd_t, ↓Gd_f, reduceIte, reduceCtorEq, Int.reduceLE, Int.reduceLT, Int.reduceToNat, Int.reduceNeg, Nat.reduceLT, Nat.reduceEqDiff, Nat.reduceAdd, Nat.reduceSub, Nat.reduceMul, Nat.reduceLeDiff, hx']
  apply call_d (f := 25) (fn := Try.f25) (by kernel_rfl) (by rfl)
  · exact Bears_vm h x _ F (by omega)
  rw [show bearsOut h x = 1 from (if_pos (hA.lay hv)).trans hA.ver, hA.lay hv]
  simp (maxSteps := 1000000) only [VL, VM, ↓Gd_none, ↓Gd_t, ↓Gd_f, reduceIte, reduceCtorEq, Int.reduceLE, Int.reduceLT, Int.reduceToNat, Int.reduceNeg, Nat.reduceLT, Nat.reduceEqDiff, Nat.reduceAdd, Nat.reduceSub, Nat.reduceMul, Nat.reduceLeDiff, hx']
  refine W_seq ?_
  refine W_then2 [(3, .ptr (M.H.length + 1) 0), (4, pusV best), (8, vi (rentOf h best)), (10, .so (M.H.length + 2) 1 (all.map lyP)), (11, vb ((all.take i).any fun x => decide (x = best))), (12, vi i)] ⟨M.H ++ (.obj [uv u1] :: .obj (hallC h) :: .clm all.length 1 :: X), M.lg⟩ ?_ (fun e' hS => WCode.weak (e' := [(3, .ptr (M.H.length + 1) 0), (4, pusV best), (8, vi (rentOf h best)), (10, .so (M.H.length + 2) 1 (all.map lyP)), (11, vb ((all.take i).any fun x => decide (x = best))), (12, vi i)]) ?_ hS.ok)
  · have fin : ∀ e', Sub [(3, .ptr (M.H.length + 1) 0), (4, pusV best), (8, vi (rentOf h best)), (10, .so (M.H.length + 2) 1 (all.map lyP)), (11, vb ((all.take i).any fun x => decide (x = best))), (12, vi i)] e' → (Exit.normal = .normal ∧ ([] : List Nat) = [] ∧ (⟨M.H ++ (.obj [uv u1] :: .obj (hallC h) :: .clm all.length 1 :: X), M.lg⟩ : Mem) = ⟨M.H ++ (.obj [uv u1] :: .obj (hallC h) :: .clm all.length 1 :: X), M.lg⟩ ∧ Sub [(3, .ptr (M.H.length + 1) 0), (4, pusV best), (8, vi (rentOf h best)), (10, .so (M.H.length + 2) 1 (all.map lyP)), (11, vb ((all.take i).any fun x => decide (x = best))), (12, vi i)] e') := fun e' hS => ⟨rfl, rfl, rfl, hS⟩
    ((repeat refine W_seq ?_); refine W_region0 T_ok ?_)
    by_cases r1 : rentOf h x = rentOf h best
    rotate_left
    · have r2 : ¬ rentOf h best < rentOf h x := by
        rcases hB with hB | ⟨hB, _⟩ <;> omega
      simp (maxSteps := 1000000) only [VL, VM, ↓Gd_none, ↓Gd_t, ↓Gd_f, reduceIte, reduceCtorEq, Int.reduceLE, Int.reduceLT, Int.reduceToNat, Int.reduceNeg, Nat.reduceLT, Nat.reduceEqDiff, Nat.reduceAdd, Nat.reduceSub, Nat.reduceMul, Nat.reduceLeDiff, eq_false r1, eq_false r2, eq_self, decide_true, Bool.not_true, hx']
      ((repeat refine W_seq ?_); refine W_cond (b := false) (by first | rfl | simp only [ev, get_cons, Nat.reduceEqDiff, if_true, if_false, reduceIte]) (fun h => by cases h) (fun _ => ?_))
      ((repeat refine W_seq ?_); refine W_skip ?_)
      exact .inl (fin _ ⟨rfl, rfl, rfl, rfl, rfl, rfl, trivial⟩)
    have r2 : ¬ rentOf h best < rentOf h x := by omega
    by_cases r3 : x.length = best.length
    rotate_left
    · have r4 : ¬ x.length < best.length := by
        rcases hB with hB | ⟨_, hB | ⟨hB, _⟩⟩ <;> omega
      have r5 : ((x.length : Int) < (best.length : Int)) = False := eq_false (by omega)
      have r6 : ((x.length : Int) = (best.length : Int)) = False := eq_false (by omega)
      simp (maxSteps := 1000000) only [VL, VM, ↓Gd_none, ↓Gd_t, ↓Gd_f, reduceIte, reduceCtorEq, Int.reduceLE, Int.reduceLT, Int.reduceToNat, Int.reduceNeg, Nat.reduceLT, Nat.reduceEqDiff, Nat.reduceAdd, Nat.reduceSub, Nat.reduceMul, Nat.reduceLeDiff, eq_true r1, eq_false r2, r5, r6, eq_self, decide_true, Bool.not_true, hx']
      ((repeat refine W_seq ?_); refine W_cond (b := false) (by first | rfl | simp only [ev, get_cons, Nat.reduceEqDiff, if_true, if_false, reduceIte]) (fun h => by cases h) (fun _ => ?_))
      ((repeat refine W_seq ?_); refine W_skip ?_)
      exact .inl (fin _ ⟨rfl, rfl, rfl, rfl, rfl, rfl, trivial⟩)
    have r5 : ((x.length : Int) < (best.length : Int)) = False := eq_false (by omega)
    have r6 : ((x.length : Int) = (best.length : Int)) = True := eq_true (by omega)
    have hff : firstB x best = false := by
      have h1 := hB.not_better
      unfold betterB at h1
      simpa [r1, r3] using h1
    simp (maxSteps := 1000000) only [VL, VM, ↓Gd_none, ↓Gd_t, ↓Gd_f, reduceIte, reduceCtorEq, Int.reduceLE, Int.reduceLT, Int.reduceToNat, Int.reduceNeg, Nat.reduceLT, Nat.reduceEqDiff, Nat.reduceAdd, Nat.reduceSub, Nat.reduceMul, Nat.reduceLeDiff, eq_true r1, eq_false r2, r5, r6, eq_self, decide_true, Bool.not_true, hx']
    apply call_eq (f := 43) (fn := Try.f43) (by kernel_rfl) (by rfl)
    · exact first_v x best _ r3 (by omega)
    simp (maxSteps := 1000000) only [VL, VM, ↓Gd_none, ↓Gd_t, ↓Gd_f, reduceIte, reduceCtorEq, Int.reduceLE, Int.reduceLT, Int.reduceToNat, Int.reduceNeg, Nat.reduceLT, Nat.reduceEqDiff, Nat.reduceAdd, Nat.reduceSub, Nat.reduceMul, Nat.reduceLeDiff, hff]
    ((repeat refine W_seq ?_); refine W_cond (b := false) (by first | rfl | simp only [ev, get_cons, Nat.reduceEqDiff, if_true, if_false, reduceIte]) (fun h => by cases h) (fun _ => ?_))
    ((repeat refine W_seq ?_); refine W_skip ?_)
    exact .inl (fin _ ⟨rfl, rfl, rfl, rfl, rfl, rfl, trivial⟩)
  ((repeat refine W_seq ?_); refine W_region0 T_ok ?_)
  cases hf : (all.take i).any fun x => decide (x = best)
  · rw [hf, Bool.false_or] at hany
    simp (maxSteps := 1000000) only [VL, VM, ↓Gd_none, ↓Gd_t, ↓Gd_f, reduceIte, reduceCtorEq, Int.reduceLE, Int.reduceLT, Int.reduceToNat, Int.reduceNeg, Nat.reduceLT, Nat.reduceEqDiff, Nat.reduceAdd, Nat.reduceSub, Nat.reduceMul, Nat.reduceLeDiff, hx']
    apply call_eq (f := 21) (fn := Try.f21) (by kernel_rfl) (by rfl)
    · exact sameLayouts_v x best _ (by omega) (by omega)
    simp (maxSteps := 1000000) only [VL, VM, ↓Gd_none, ↓Gd_t, ↓Gd_f, reduceIte, reduceCtorEq, Int.reduceLE, Int.reduceLT, Int.reduceToNat, Int.reduceNeg, Nat.reduceLT, Nat.reduceEqDiff, Nat.reduceAdd, Nat.reduceSub, Nat.reduceMul, Nat.reduceLeDiff]
    ((repeat refine W_seq ?_); refine W_region0 T_ok ?_)
    simp (maxSteps := 1000000) only [VL, VM, ↓Gd_none, ↓Gd_t, ↓Gd_f, reduceIte, reduceCtorEq, Int.reduceLE, Int.reduceLT, Int.reduceToNat, Int.reduceNeg, Nat.reduceLT, Nat.reduceEqDiff, Nat.reduceAdd, Nat.reduceSub, Nat.reduceMul, Nat.reduceLeDiff, k1]
    refine LoopK.mk (i + 1) (by omega) (by omega) ⟨rfl, rfl, rfl, rfl, ?_, rfl, trivial⟩ rfl
    simp only [get_cons, Nat.reduceEqDiff, if_true, if_false, reduceIte]
    rw [hany]
  · rw [hf, Bool.true_or] at hany
    simp (maxSteps := 1000000) only [VL, VM, ↓Gd_none, ↓Gd_t, ↓Gd_f, reduceIte, reduceCtorEq, Int.reduceLE, Int.reduceLT, Int.reduceToNat, Int.reduceNeg, Nat.reduceLT, Nat.reduceEqDiff, Nat.reduceAdd, Nat.reduceSub, Nat.reduceMul, Nat.reduceLeDiff, hx']
    ((repeat refine W_seq ?_); refine W_region0 T_ok ?_)
    simp (maxSteps := 1000000) only [VL, VM, ↓Gd_none, ↓Gd_t, ↓Gd_f, reduceIte, reduceCtorEq, Int.reduceLE, Int.reduceLT, Int.reduceToNat, Int.reduceNeg, Nat.reduceLT, Nat.reduceEqDiff, Nat.reduceAdd, Nat.reduceSub, Nat.reduceMul, Nat.reduceLeDiff, k1]
    refine LoopK.mk (i + 1) (by omega) (by omega) ⟨rfl, rfl, rfl, rfl, ?_, rfl, trivial⟩ rfl
    simp only [get_cons, Nat.reduceEqDiff, if_true, if_false, reduceIte]
    rw [hany]
end Go.Proofs.Ytijcmgfblpokhaa.Vm

/- VaultBest: for every list of numbers the law answers true, and the numbers read afterwards as before. (Vm) -/
namespace Go.Proofs.Ytijcmgfblpokhaa.Vm
open Go Go.Proofs Go.ChangeShapes Go.WideShapes Go.ChangeAt Go.RowKit
set_option maxRecDepth 100000 in
theorem best_lifted (os : Os) (started : os.Started) (H : Type) (enc : TypeId × Value → H) :
    ReturnsInHanded {} Try.checked os 8 .any (Rows.vaultBestSpec.pre6 enc Try.prog Try.f8 Rows.vaultBestRow.domain false) (Rows.vaultBestSpec.post enc Try.prog Try.f8 false true false false) := by
  refine returnsInHanded_of_change (C := Try.checked) law_own started (by kernel_rfl) Try.func8
    (ChangeSpec.witness6 (enc := enc) (C := Try.checked) false ⟨#[], #[.slice none 0 0], []⟩ 8 (by kernel_rfl) (by kernel_rfl) (by kernel_rfl) (by kernel_rfl)) ?_
  intro W base args ds gs before hval hW hcnd _
  exact ints_contract rfl (fun d => ⟨rfl, rfl, rfl⟩) rfl rfl (fun xs hl => best_law_v awake_v xs ⟨[], []⟩ hl) hval hW
theorem best_holds : Rows.VaultBestSaid :=
  OpenClaim.holds_of_wide 8 Try.f8 rfl rfl rfl rfl rfl rfl rfl ⟨rfl, rfl, rfl, rfl, rfl⟩ rfl rfl rfl rfl rfl (by kernel_rfl) Try.func8 (by kernel_rfl)
    (of_decide_eq_true (by kernel_rfl)) (by unfold Func.isWrapper; first | (rw [if_pos (by decide +kernel)]; kernel_rfl) | (rw [if_neg (by decide +kernel)]; exact ⟨rfl, rfl⟩))
    (fun os started H enc _ => best_lifted os started H enc)
end Go.Proofs.Ytijcmgfblpokhaa.Vm
namespace Go.Proofs.Ytijcmgfblpokhaa
theorem vaultBest_proved : Rows.VaultBestSaid := Vm.best_holds
end Go.Proofs.Ytijcmgfblpokhaa
