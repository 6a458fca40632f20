/- VaultChosen: for every hall and list of numbers the law answers true, and the arguments read afterwards as before. No conditions. -/
import Derived.Test.YtijcmgfblpokhaaB46
import Derived.Test.YtijcmgfblpokhaaB48
import Derived.Test.YtijcmgfblpokhaaB51
import Derived.Test.YtijcmgfblpokhaaB52
import Derived.Test.YtijcmgfblpokhaaB53
import Derived.Test.YtijcmgfblpokhaaB54
import Derived.Test.YtijcmgfblpokhaaB55
set_option linter.unusedVariables false
set_option linter.unusedSimpArgs false
/- The law of the best layout, on values. (Vm) -/
namespace Go.Proofs.Ytijcmgfblpokhaa.Vm
open Go Go.Proofs
/-- puts, from one on -/
theorem firstB_drop {a b : List Pu} {i : Nat} (h : a.take i = b.take i) : firstB a b = firstB (a.drop i) (b.drop i) := by
  have h1 : a = a.take i ++ a.drop i := (List.take_append_drop i a).symm
  have h2 : b = a.take i ++ b.drop i := by rw [h]; exact (List.take_append_drop i b).symm
  calc firstB a b = firstB (a.take i ++ a.drop i) (a.take i ++ b.drop i) := by rw [← h1, ← h2]
    _ = _ := firstB_append _ _ _
set_option maxRecDepth 100000 in
theorem first_v (a b : List Pu) (M : Mem) (hab : a.length = b.length) (hl : a.length ≤ 1000000) : VC Try.prog 43 [pusV a, pusV b] M (fun r M' => M' = M ∧ r = vb (firstB a b)) := by
  refine VC_own' T_ok (f := 43) (fn := Try.f43) (by kernel_rfl) rfl Try.ntmps43 (by rfl) (by rfl) ?_
  ((repeat refine W_seq ?_); refine W_region0 T_ok ?_)
  simp (maxSteps := 1000000) only [VL, VM, ↓Gd_none, ↓Gd_t, ↓Gd_f, reduceIte, reduceCtorEq, Int.reduceLE, Int.reduceLT, Int.reduceToNat, Int.reduceNeg, Nat.reduceLT, Nat.reduceEqDiff, Nat.reduceAdd, Nat.reduceSub, Nat.reduceMul, Nat.reduceLeDiff]
  ((repeat refine W_seq ?_); refine W_region0 T_ok ?_)
  simp (maxSteps := 1000000) only [VL, VM, ↓Gd_none, ↓Gd_t, ↓Gd_f, reduceIte, reduceCtorEq, Int.reduceLE, Int.reduceLT, Int.reduceToNat, Int.reduceNeg, Nat.reduceLT, Nat.reduceEqDiff, Nat.reduceAdd, Nat.reduceSub, Nat.reduceMul, Nat.reduceLeDiff]
  ((repeat refine W_seq ?_); refine W_block ?_; (repeat refine W_seq ?_)); refine W_loopS (fun s : Nat × List VObj => [(0, pusV a), (1, pusV b), (5, vi s.1)]) (fun s => ⟨M.H ++ s.2, M.lg⟩) (fun s => a.length - s.1) (fun s => s.1 ≤ a.length ∧ a.take s.1 = b.take s.1) (0, []) ⟨Nat.zero_le _, rfl⟩ ⟨rfl, rfl, rfl, trivial⟩ (by simp) ?_
  rintro ⟨i, junk⟩ ⟨hi, htk⟩
  simp only at hi htk
  have k1 : -9223372036854775808 ≤ (i : Int) + 1 ∧ (i : Int) + 1 < 9223372036854775808 := by omega
  ((repeat refine W_seq ?_); refine W_region0 T_ok ?_)
  rcases Nat.lt_or_ge i a.length with hlt | hge
  rotate_left
  · have k2 : ((i : Int) < (a.length : Int)) = False := eq_false (by omega)
    have he : firstB a b = false := by
      rw [firstB_drop htk, List.drop_of_length_le (by omega)]
      rfl
    simp (maxSteps := 1000000) only [VL, VM, ↓Gd_none, ↓Gd_t, ↓Gd_f, reduceIte, reduceCtorEq, Int.reduceLE, Int.reduceLT, Int.reduceToNat, Int.reduceNeg, Nat.reduceLT, Nat.reduceEqDiff, Nat.reduceAdd, Nat.reduceSub, Nat.reduceMul, Nat.reduceLeDiff, k2]
    ((repeat refine W_seq ?_); refine W_cond (b := false) (by first | rfl | simp only [ev, get_cons, Nat.reduceEqDiff, if_true, if_false, reduceIte]) (fun h => by cases h) (fun _ => ?_))
    ((repeat refine W_seq ?_); refine W_exit ?_)
    simp (maxSteps := 1000000) only [VL, VM, ↓Gd_none, ↓Gd_t, ↓Gd_f, reduceIte, reduceCtorEq, Int.reduceLE, Int.reduceLT, Int.reduceToNat, Int.reduceNeg, Nat.reduceLT, Nat.reduceEqDiff, Nat.reduceAdd, Nat.reduceSub, Nat.reduceMul, Nat.reduceLeDiff]
    ((repeat refine W_seq ?_); refine W_region0 T_ok ?_)
    simp (maxSteps := 1000000) only [VL, VM, ↓Gd_none, ↓Gd_t, ↓Gd_f, reduceIte, reduceCtorEq, Int.reduceLE, Int.reduceLT, Int.reduceToNat, Int.reduceNeg, Nat.reduceLT, Nat.reduceEqDiff, Nat.reduceAdd, Nat.reduceSub, Nat.reduceMul, Nat.reduceLeDiff]
    (repeat refine W_seq ?_)
    refine W_ret ?_
    try simp only [thenQ, blockQ]
    refine own_ret1 rfl ?_ (by rfl)
    simp only [get_cons, frz, vtup, Nat.reduceEqDiff, if_true, if_false, reduceIte]
    rw [he]
  have k2 : ((i : Int) < (a.length : Int)) = True := eq_true (by omega)
  have hx := List.getElem?_eq_getElem hlt
  have hy := List.getElem?_eq_getElem (show i < b.length by omega)
  have hd : firstB a b = if a[i] = b[i] then firstB (a.drop (i + 1)) (b.drop (i + 1)) else puLt a[i] b[i] := by
    rw [firstB_drop htk, List.drop_eq_getElem_cons hlt, List.drop_eq_getElem_cons (show i < b.length by omega)]; rfl
  have hx' := map_at (f := puP) hx
  have hy' := map_at (f := puP) hy
  have hnext : a[i] = b[i] → a.take (i + 1) = b.take (i + 1) := fun e => by
    rw [List.take_add_one, List.take_add_one, hx, hy, htk, e]
  generalize a[i] = p at hx' hd hnext
  generalize b[i] = q at hy' hd hnext
  obtain ⟨⟨px, py⟩, pk⟩ := p
  obtain ⟨⟨qx, qy⟩, qk⟩ := q
  simp (maxSteps := 1000000) only [VL, VM, ↓Gd_none, ↓Gd_t, ↓Gd_f, reduceIte, reduceCtorEq, Int.reduceLE, Int.reduceLT, Int.reduceToNat, Int.reduceNeg, Nat.reduceLT, Nat.reduceEqDiff, Nat.reduceAdd, Nat.reduceSub, Nat.reduceMul, Nat.reduceLeDiff, k2]
  ((repeat refine W_seq ?_); refine W_cond (b := true) (by first | rfl | simp only [ev, get_cons, Nat.reduceEqDiff, if_true, if_false, reduceIte]) (fun _ => ?_) (fun h => by cases h))
  ((repeat refine W_seq ?_); refine W_skip ?_)
  simp (maxSteps := 1000000) only [VL, VM, ↓Gd_none, ↓Gd_t, ↓Gd_f, reduceIte, reduceCtorEq, Int.reduceLE, Int.reduceLT, Int.reduceToNat, Int.reduceNeg, Nat.reduceLT, Nat.reduceEqDiff, Nat.reduceAdd, Nat.reduceSub, Nat.reduceMul, Nat.reduceLeDiff]
  ((repeat refine W_seq ?_); refine W_block ?_)
  (repeat refine W_seq ?_)
  refine W_drawP T_ok [VObj.obj [vi 0, vi 0, vi 0], VObj.obj [vi 0, vi 0, vi 0]] (by kernel_rfl) (by kernel_rfl) ?_
  generalize hi : mkPlan _ = infs
  cbv at hi
  subst hi
  simp (maxSteps := 1000000) only [VL, VM, ↓Gd_none, ↓Gd_t, ↓Gd_f, reduceIte, reduceCtorEq, Int.reduceLE, Int.reduceLT, Int.reduceToNat, Int.reduceNeg, Nat.reduceLT, Nat.reduceEqDiff, Nat.reduceAdd, Nat.reduceSub, Nat.reduceMul, Nat.reduceLeDiff, hx', hy']
  ((repeat refine W_seq ?_); refine W_block ?_)
  ((repeat refine W_seq ?_); refine W_region0 T_ok ?_)
  by_cases e1 : py = qy
  rotate_left
  · have hf : firstB a b = decide (py < qy) := by
      rw [hd, if_neg (by simp [e1])]
      unfold puLt
      simp [e1]
    simp (maxSteps := 1000000) only [VL, VM, ↓Gd_none, ↓Gd_t, ↓Gd_f, reduceIte, reduceCtorEq, Int.reduceLE, Int.reduceLT, Int.reduceToNat, Int.reduceNeg, Nat.reduceLT, Nat.reduceEqDiff, Nat.reduceAdd, Nat.reduceSub, Nat.reduceMul, Nat.reduceLeDiff, eq_false e1]
    ((repeat refine W_seq ?_); refine W_cond (b := true) (by first | rfl | simp only [ev, get_cons, Nat.reduceEqDiff, if_true, if_false, reduceIte]) (fun _ => ?_) (fun h => by cases h))
    ((repeat refine W_seq ?_); refine W_region0 T_ok ?_)
    simp (maxSteps := 1000000) only [VL, VM, ↓Gd_none, ↓Gd_t, ↓Gd_f, reduceIte, reduceCtorEq, Int.reduceLE, Int.reduceLT, Int.reduceToNat, Int.reduceNeg, Nat.reduceLT, Nat.reduceEqDiff, Nat.reduceAdd, Nat.reduceSub, Nat.reduceMul, Nat.reduceLeDiff]
    (repeat refine W_seq ?_)
    refine W_ret ?_
    try simp only [thenQ, blockQ]
    refine own_ret1 rfl ?_ (by rfl)
    simp only [get_cons, frz, vtup, Nat.reduceEqDiff, if_true, if_false, reduceIte]
    rw [hf]
  subst e1
  simp (maxSteps := 1000000) only [VL, VM, ↓Gd_none, ↓Gd_t, ↓Gd_f, reduceIte, reduceCtorEq, Int.reduceLE, Int.reduceLT, Int.reduceToNat, Int.reduceNeg, Nat.reduceLT, Nat.reduceEqDiff, Nat.reduceAdd, Nat.reduceSub, Nat.reduceMul, Nat.reduceLeDiff, eq_self, decide_true, Bool.not_true]
  ((repeat refine W_seq ?_); refine W_cond (b := false) (by first | rfl | simp only [ev, get_cons, Nat.reduceEqDiff, if_true, if_false, reduceIte]) (fun h => by cases h) (fun _ => ?_))
  ((repeat refine W_seq ?_); refine W_region0 T_ok ?_)
  by_cases e2 : px = qx
  rotate_left
  · have hf : firstB a b = decide (px < qx) := by
      rw [hd, if_neg (by simp [e2])]
      unfold puLt
      simp [e2]
    simp (maxSteps := 1000000) only [VL, VM, ↓Gd_none, ↓Gd_t, ↓Gd_f, reduceIte, reduceCtorEq, Int.reduceLE, Int.reduceLT, Int.reduceToNat, Int.reduceNeg, Nat.reduceLT, Nat.reduceEqDiff, Nat.reduceAdd, Nat.reduceSub, Nat.reduceMul, Nat.reduceLeDiff, eq_false e2]
    ((repeat refine W_seq ?_); refine W_cond (b := true) (by first | rfl | simp only [ev, get_cons, Nat.reduceEqDiff, if_true, if_false, reduceIte]) (fun _ => ?_) (fun h => by cases h))
    ((repeat refine W_seq ?_); refine W_region0 T_ok ?_)
    simp (maxSteps := 1000000) only [VL, VM, ↓Gd_none, ↓Gd_t, ↓Gd_f, reduceIte, reduceCtorEq, Int.reduceLE, Int.reduceLT, Int.reduceToNat, Int.reduceNeg, Nat.reduceLT, Nat.reduceEqDiff, Nat.reduceAdd, Nat.reduceSub, Nat.reduceMul, Nat.reduceLeDiff]
    (repeat refine W_seq ?_)
    refine W_ret ?_
    try simp only [thenQ, blockQ]
    refine own_ret1 rfl ?_ (by rfl)
    simp only [get_cons, frz, vtup, Nat.reduceEqDiff, if_true, if_false, reduceIte]
    rw [hf]
  subst e2
  simp (maxSteps := 1000000) only [VL, VM, ↓Gd_none, ↓Gd_t, ↓Gd_f, reduceIte, reduceCtorEq, Int.reduceLE, Int.reduceLT, Int.reduceToNat, Int.reduceNeg, Nat.reduceLT, Nat.reduceEqDiff, Nat.reduceAdd, Nat.reduceSub, Nat.reduceMul, Nat.reduceLeDiff, eq_self, decide_true, Bool.not_true]
  ((repeat refine W_seq ?_); refine W_cond (b := false) (by first | rfl | simp only [ev, get_cons, Nat.reduceEqDiff, if_true, if_false, reduceIte]) (fun h => by cases h) (fun _ => ?_))
  ((repeat refine W_seq ?_); refine W_region0 T_ok ?_)
  by_cases e3 : pk = qk
  rotate_left
  · have hf : firstB a b = decide (pk < qk) := by
      rw [hd, if_neg (by simp [e3])]
      unfold puLt
      simp
    simp (maxSteps := 1000000) only [VL, VM, ↓Gd_none, ↓Gd_t, ↓Gd_f, reduceIte, reduceCtorEq, Int.reduceLE, Int.reduceLT, Int.reduceToNat, Int.reduceNeg, Nat.reduceLT, Nat.reduceEqDiff, Nat.reduceAdd, Nat.reduceSub, Nat.reduceMul, Nat.reduceLeDiff, eq_false e3]
    ((repeat refine W_seq ?_); refine W_cond (b := true) (by first | rfl | simp only [ev, get_cons, Nat.reduceEqDiff, if_true, if_false, reduceIte]) (fun _ => ?_) (fun h => by cases h))
    ((repeat refine W_seq ?_); refine W_region0 T_ok ?_)
    simp (maxSteps := 1000000) only [VL, VM, ↓Gd_none, ↓Gd_t, ↓Gd_f, reduceIte, reduceCtorEq, Int.reduceLE, Int.reduceLT, Int.reduceToNat, Int.reduceNeg, Nat.reduceLT, Nat.reduceEqDiff, Nat.reduceAdd, Nat.reduceSub, Nat.reduceMul, Nat.reduceLeDiff]
    (repeat refine W_seq ?_)
    refine W_ret ?_
    try simp only [thenQ, blockQ]
    refine own_ret1 rfl ?_ (by rfl)
    simp only [get_cons, frz, vtup, Nat.reduceEqDiff, if_true, if_false, reduceIte]
    rw [hf]
  subst e3
  simp (maxSteps := 1000000) only [VL, VM, ↓Gd_none, ↓Gd_t, ↓Gd_f, reduceIte, reduceCtorEq, Int.reduceLE, Int.reduceLT, Int.reduceToNat, Int.reduceNeg, Nat.reduceLT, Nat.reduceEqDiff, Nat.reduceAdd, Nat.reduceSub, Nat.reduceMul, Nat.reduceLeDiff, eq_self, decide_true, Bool.not_true]
  ((repeat refine W_seq ?_); refine W_cond (b := false) (by first | rfl | simp only [ev, get_cons, Nat.reduceEqDiff, if_true, if_false, reduceIte]) (fun h => by cases h) (fun _ => ?_))
  ((repeat refine W_seq ?_); refine W_skip ?_)
  simp (maxSteps := 1000000) only [VL, VM, ↓Gd_none, ↓Gd_t, ↓Gd_f, reduceIte, reduceCtorEq, Int.reduceLE, Int.reduceLT, Int.reduceToNat, Int.reduceNeg, Nat.reduceLT, Nat.reduceEqDiff, Nat.reduceAdd, Nat.reduceSub, Nat.reduceMul, Nat.reduceLeDiff]
  ((repeat refine W_seq ?_); refine W_region0 T_ok ?_)
  simp (maxSteps := 1000000) only [VL, VM, ↓Gd_none, ↓Gd_t, ↓Gd_f, reduceIte, reduceCtorEq, Int.reduceLE, Int.reduceLT, Int.reduceToNat, Int.reduceNeg, Nat.reduceLT, Nat.reduceEqDiff, Nat.reduceAdd, Nat.reduceSub, Nat.reduceMul, Nat.reduceLeDiff, k1]
  refine LoopK.mk (i + 1, junk ++ [.obj [vi px, vi py, vi pk], .obj [vi px, vi py, vi pk]]) (by simp only; omega) ⟨by simp only; omega, hnext rfl⟩ ⟨rfl, rfl, rfl, trivial⟩ (by simp)
/-! ### how many layouts there are -/
theorem flat_le {α : Type} (f : Nat → List α) (B : Nat) : ∀ n, (∀ k, k < n → (f k).length ≤ B) → ((List.range n).flatMap f).length ≤ n * B
  | 0, _ => by simp
  | n + 1, h => by
    have := flat_le f B n fun k hk => h k (by omega)
    have h1 := h n (by omega)
    rw [List.range_succ, List.flatMap_append, List.length_append, Nat.succ_mul]
    simp only [List.flatMap_cons, List.flatMap_nil, List.append_nil]
    omega
theorem lay_count (h : Ha) : ∀ (cs : List Pl) (l : List Pu), (layL h cs l).length ≤ (h.kinds.length + 1) ^ (cs.filter fun c => !hasPl h.shut c).length
  | [], l => by simp [layL]
  | c :: cs, l => by
    have h1 := lay_count h cs l
    simp only [layL]
    rw [List.length_append]
    cases hc : hasPl h.shut c with
    | true =>
      have hz : ((List.range h.kinds.length).flatMap fun k : Nat => if allowedB h (l ++ [⟨c, (k : Int)⟩]) then layL h cs (l ++ [⟨c, (k : Int)⟩]) else []).length ≤ h.kinds.length * 0 := by
        refine flat_le _ 0 _ fun k hk => ?_
        have : allowedB h (l ++ [⟨c, (k : Int)⟩]) = false := by
          cases ha : allowedB h (l ++ [⟨c, (k : Int)⟩]) with
          | false => rfl
          | true =>
            have := (allowedB_iff.1 ha).1.2.1 ⟨c, (k : Int)⟩ (by simp)
            unfold ownB at this
            simp [hc] at this
        rw [this]; simp
      rw [List.filter_cons, hc]
      simp only [Bool.not_true, Bool.false_eq_true, if_false]
      omega
    | false =>
      have hz : ((List.range h.kinds.length).flatMap fun k : Nat => if allowedB h (l ++ [⟨c, (k : Int)⟩]) then layL h cs (l ++ [⟨c, (k : Int)⟩]) else []).length ≤ h.kinds.length * (h.kinds.length + 1) ^ (cs.filter fun c => !hasPl h.shut c).length := by
        refine flat_le _ _ _ fun k hk => ?_
        split
        · exact lay_count h cs _
        · exact Nat.zero_le _
      rw [List.filter_cons, hc]
      simp only [Bool.not_false, if_true, List.length_cons]
      rw [Nat.pow_succ, Nat.mul_comm, Nat.succ_mul]
      omega
theorem lay_bound {h : Ha} {n k : Nat} (ho : (openL h).length ≤ n) (hk : h.kinds.length ≤ k) (hn : (k + 1) ^ n ≤ 1000000) : (layL h (placesL h) []).length ≤ 1000000 := by
  have h1 := lay_count h (placesL h) []
  have h2 : (h.kinds.length + 1) ^ ((placesL h).filter fun c => !hasPl h.shut c).length ≤ (k + 1) ^ n := by
    refine Nat.le_trans (Nat.pow_le_pow_left (by omega) _) (Nat.pow_le_pow_right (by omega) ho)
  omega
theorem InA.len {h : Ha} {x : List Pu} (a : InA h x) : x.length ≤ 24 := (allowedB_iff.1 a.1).1.1
end Go.Proofs.Ytijcmgfblpokhaa.Vm

/- The reference's best layout, on values. (Vm) -/
namespace Go.Proofs.Ytijcmgfblpokhaa.Vm
open Go Go.Proofs
theorem cells_nodup {h : Ha} {l : List Pl} (e : cellsErr h l = 0) : (∀ c ∈ l, isPl h c = true) ∧ l.Nodup := by
  unfold cellsErr at e
  by_cases hb : 24 < l.length
  · rw [if_pos hb] at e; exact absurd e (by decide)
  rw [if_neg hb, firstErr_zero] at e
  have e' : ∀ k (hk : k < l.length), isPl h l[k] = true ∧ hasPl (l.take k) l[k] = false := by
    intro k hk
    have := e k hk
    unfold cellErr at this
    rw [List.getElem?_eq_getElem hk] at this
    simp only at this
    cases h1 : isPl h l[k]
    · rw [h1] at this; simp at this
    cases h2 : hasPl (l.take k) l[k]
    · exact ⟨rfl, rfl⟩
    · rw [h1, h2] at this; simp at this
  refine ⟨fun c hc => ?_, ?_⟩
  · obtain ⟨k, hk, rfl⟩ := List.getElem_of_mem hc
    exact (e' k hk).1
  · unfold List.Nodup
    rw [List.pairwise_iff_getElem]
    intro i j hi hj hij heq
    have h2 := (e' j hj).2
    unfold hasPl at h2
    have : l[j] ∈ l.take j := by
      rw [List.mem_take_iff_getElem]
      exact ⟨i, by omega, heq⟩
    rw [List.contains_iff_mem.2 this] at h2
    cases h2
theorem nodup_len {α : Type} [DecidableEq α] : ∀ {l m : List α}, l.Nodup → (∀ x ∈ l, x ∈ m) → l.length ≤ m.length
  | [], m, _, _ => Nat.zero_le _
  | x :: l, m, hn, hs => by
    rw [List.nodup_cons] at hn
    have hx := hs x (List.mem_cons_self ..)
    have h1 := nodup_len (m := m.erase x) hn.2 fun y hy => by
      have hyx : y ≠ x := fun e => hn.1 (by rw [← e]; exact hy)
      exact (List.mem_erase_of_ne hyx).2 (hs y (List.mem_cons_of_mem _ hy))
    rw [List.length_erase_of_mem hx] at h1
    have h2 := List.length_pos_of_mem hx
    simp only [List.length_cons]
    omega
theorem plLt_ne {a b : Pl} (h : plLt a b) : a ≠ b := fun e => plLt_irrefl (e ▸ h)
theorem place_mem {h : Ha} {c : Pl} (e : isPl h c = true) : c ∈ placesL h := by
  unfold isPl at e
  simp only [Bool.and_eq_true, inR_true] at e
  unfold placesL rowsOf rowOf
  rw [List.mem_flatMap]
  refine ⟨c.y.toNat, List.mem_range.2 (by omega), List.mem_map.2 ⟨c.x.toNat, List.mem_range.2 (by omega), ?_⟩⟩
  obtain ⟨a, b⟩ := c
  simp only at e ⊢
  rw [Int.toNat_of_nonneg (by omega), Int.toNat_of_nonneg (by omega)]
theorem open_len {h : Ha} (V : VH h) : ((openL h).length : Int) = h.wide * h.deep - h.shut.length := by
  obtain ⟨s1, s2⟩ := cells_nodup V.shut
  have hp : (placesL h).Nodup := (places_ord h).imp fun a => plLt_ne a
  have hsub : ∀ c ∈ h.shut, c ∈ (placesL h).filter fun c => hasPl h.shut c := fun c hc => List.mem_filter.2 ⟨place_mem (s1 c hc), List.contains_iff_mem.2 hc⟩
  have h1 := nodup_len s2 hsub
  have h2 := nodup_len (l := (placesL h).filter fun c => hasPl h.shut c) (m := h.shut) (hp.sublist List.filter_sublist) fun c hc => List.contains_iff_mem.1 (List.mem_filter.1 hc).2
  have h3 : ((placesL h).filter fun c => hasPl h.shut c).length + (openL h).length = (placesL h).length := by
    unfold openL
    induction placesL h with
    | nil => rfl
    | cons c l ih =>
      rw [List.filter_cons, List.filter_cons]
      cases hasPl h.shut c <;> simp <;> omega
  have h4 : ((placesL h).length : Int) = h.wide * h.deep := by
    unfold placesL
    rw [rowsOf_len, Int.natCast_mul, Int.toNat_of_nonneg (by have := V.d1; omega), Int.toNat_of_nonneg (by have := V.w1; omega), Int.mul_comm]
  omega
set_option maxHeartbeats 6000000 in
set_option maxRecDepth 100000 in
theorem refBest_v (h : Ha) (M : Mem) (F : Fin h) (hb : hallErr h = 0 → (openL h).length ≤ 8 → (layL h (placesL h) []).length ≤ 1000000) : VC Try.prog 20 [hallV h] M (fun r M' => M' = M ∧ r = .tup [bestR h, vi (bestErr h)]) := by
  refine VC_own' T_ok (f := 20) (fn := Try.f20) (by kernel_rfl) rfl Try.ntmps20 (by rfl) (by rfl) ?_
  ((repeat refine W_seq ?_); refine W_region0 T_ok ?_)
  simp (maxSteps := 1000000) only [VL, VM, ↓Gd_none, ↓Gd_t, ↓Gd_f, reduceIte, reduceCtorEq, Int.reduceLE, Int.reduceLT, Int.reduceToNat, Int.reduceNeg, Nat.reduceLT, Nat.reduceEqDiff, Nat.reduceAdd, Nat.reduceSub, Nat.reduceMul, Nat.reduceLeDiff]
  ((repeat refine W_seq ?_); refine W_region0 T_ok ?_)
  simp (maxSteps := 1000000) only [VL, VM, ↓Gd_none, ↓Gd_t, ↓Gd_f, reduceIte, reduceCtorEq, Int.reduceLE, Int.reduceLT, Int.reduceToNat, Int.reduceNeg, Nat.reduceLT, Nat.reduceEqDiff, Nat.reduceAdd, Nat.reduceSub, Nat.reduceMul, Nat.reduceLeDiff]
  apply call_eq (f := 14) (fn := Try.f14) (by kernel_rfl) (by rfl)
  · exact check_v h _ F
  simp (maxSteps := 1000000) only [VL, VM, ↓Gd_none, ↓Gd_t, ↓Gd_f, reduceIte, reduceCtorEq, Int.reduceLE, Int.reduceLT, Int.reduceToNat, Int.reduceNeg, Nat.reduceLT, Nat.reduceEqDiff, Nat.reduceAdd, Nat.reduceSub, Nat.reduceMul, Nat.reduceLeDiff]
  ((repeat refine W_seq ?_); refine W_region0 T_ok ?_)
  by_cases e : hallErr h = 0
  rotate_left
  · simp (maxSteps := 1000000) only [VL, VM, ↓Gd_none, ↓Gd_t, ↓Gd_f, reduceIte, reduceCtorEq, Int.reduceLE, Int.reduceLT, Int.reduceToNat, Int.reduceNeg, Nat.reduceLT, Nat.reduceEqDiff, Nat.reduceAdd, Nat.reduceSub, Nat.reduceMul, Nat.reduceLeDiff, eq_false e]
    ((repeat refine W_seq ?_); refine W_cond (b := true) (by first | rfl | simp only [ev, get_cons, Nat.reduceEqDiff, if_true, if_false, reduceIte]) (fun _ => ?_) (fun h => by cases h))
    ((repeat refine W_seq ?_); refine W_region0 T_ok ?_)
    simp (maxSteps := 1000000) only [VL, VM, ↓Gd_none, ↓Gd_t, ↓Gd_f, reduceIte, reduceCtorEq, Int.reduceLE, Int.reduceLT, Int.reduceToNat, Int.reduceNeg, Nat.reduceLT, Nat.reduceEqDiff, Nat.reduceAdd, Nat.reduceSub, Nat.reduceMul, Nat.reduceLeDiff]
    (repeat refine W_seq ?_)
    refine W_ret ?_
    try simp only [thenQ, blockQ]
    refine own_ret2 rfl ?_ ?_ ?_ rfl
    · simp [get_cons, frz, bestR, bestErr, e]
    · simp [get_cons, frz, bestR, bestErr, e]
    · simp [bestR, bestErr, e, refs]
  have V := VH.of e
  have hol := open_len V
  have w1 := V.w1
  have w2 := V.w2
  have d1 := V.d1
  have d2 := V.d2
  have sl := V.shut_len
  have hm : 0 ≤ h.wide * h.deep ∧ h.wide * h.deep ≤ 6 * 4 := ⟨Int.mul_nonneg (by omega) (by omega), Int.mul_le_mul w2 d2 (by omega) (by omega)⟩
  have a1 : -9223372036854775808 ≤ h.wide * h.deep ∧ h.wide * h.deep < 9223372036854775808 := by omega
  have a2 : -9223372036854775808 ≤ ((openL h).length : Int) ∧ ((openL h).length : Int) < 9223372036854775808 := by omega
  simp (maxSteps := 1000000) only [VL, VM, ↓Gd_none, ↓Gd_t, ↓Gd_f, reduceIte, reduceCtorEq, Int.reduceLE, Int.reduceLT, Int.reduceToNat, Int.reduceNeg, Nat.reduceLT, Nat.reduceEqDiff, Nat.reduceAdd, Nat.reduceSub, Nat.reduceMul, Nat.reduceLeDiff, e]
  ((repeat refine W_seq ?_); refine W_cond (b := false) (by first | rfl | simp only [ev, get_cons, Nat.reduceEqDiff, if_true, if_false, reduceIte]) (fun h => by cases h) (fun _ => ?_))
  ((repeat refine W_seq ?_); refine W_skip ?_)
  simp (maxSteps := 1000000) only [VL, VM, ↓Gd_none, ↓Gd_t, ↓Gd_f, reduceIte, reduceCtorEq, Int.reduceLE, Int.reduceLT, Int.reduceToNat, Int.reduceNeg, Nat.reduceLT, Nat.reduceEqDiff, Nat.reduceAdd, Nat.reduceSub, Nat.reduceMul, Nat.reduceLeDiff]
  ((repeat refine W_seq ?_); refine W_region0 T_ok ?_)
  by_cases hbig : 8 < (openL h).length
  · have b1 : ((8 : Int) < ((openL h).length : Int)) = True := eq_true (by omega)
    simp (maxSteps := 1000000) only [VL, VM, ↓Gd_none, ↓Gd_t, ↓Gd_f, reduceIte, reduceCtorEq, Int.reduceLE, Int.reduceLT, Int.reduceToNat, Int.reduceNeg, Nat.reduceLT, Nat.reduceEqDiff, Nat.reduceAdd, Nat.reduceSub, Nat.reduceMul, Nat.reduceLeDiff, a1, ← hol, a2, b1]
    ((repeat refine W_seq ?_); refine W_cond (b := true) (by first | rfl | simp only [ev, get_cons, Nat.reduceEqDiff, if_true, if_false, reduceIte]) (fun _ => ?_) (fun h => by cases h))
    ((repeat refine W_seq ?_); refine W_region0 T_ok ?_)
    simp (maxSteps := 1000000) only [VL, VM, ↓Gd_none, ↓Gd_t, ↓Gd_f, reduceIte, reduceCtorEq, Int.reduceLE, Int.reduceLT, Int.reduceToNat, Int.reduceNeg, Nat.reduceLT, Nat.reduceEqDiff, Nat.reduceAdd, Nat.reduceSub, Nat.reduceMul, Nat.reduceLeDiff]
    (repeat refine W_seq ?_)
    refine W_ret ?_
    try simp only [thenQ, blockQ]
    refine own_ret2 rfl ?_ ?_ ?_ rfl
    · simp [get_cons, frz, bestR, bestErr, e, hbig]
    · simp [get_cons, frz, bestR, bestErr, e, hbig]
    · simp [bestR, bestErr, e, hbig, refs]
  have b1 : ((8 : Int) < ((openL h).length : Int)) = False := eq_false (by omega)
  simp (maxSteps := 1000000) only [VL, VM, ↓Gd_none, ↓Gd_t, ↓Gd_f, reduceIte, reduceCtorEq, Int.reduceLE, Int.reduceLT, Int.reduceToNat, Int.reduceNeg, Nat.reduceLT, Nat.reduceEqDiff, Nat.reduceAdd, Nat.reduceSub, Nat.reduceMul, Nat.reduceLeDiff, a1, ← hol, a2, b1]
  ((repeat refine W_seq ?_); refine W_cond (b := false) (by first | rfl | simp only [ev, get_cons, Nat.reduceEqDiff, if_true, if_false, reduceIte]) (fun h => by cases h) (fun _ => ?_))
  ((repeat refine W_seq ?_); refine W_skip ?_)
  simp (maxSteps := 1000000) only [VL, VM, ↓Gd_none, ↓Gd_t, ↓Gd_f, reduceIte, reduceCtorEq, Int.reduceLE, Int.reduceLT, Int.reduceToNat, Int.reduceNeg, Nat.reduceLT, Nat.reduceEqDiff, Nat.reduceAdd, Nat.reduceSub, Nat.reduceMul, Nat.reduceLeDiff]
  ((repeat refine W_seq ?_); refine W_region0 T_ok ?_)
  simp (maxSteps := 1000000) only [VL, VM, ↓Gd_none, ↓Gd_t, ↓Gd_f, reduceIte, reduceCtorEq, Int.reduceLE, Int.reduceLT, Int.reduceToNat, Int.reduceNeg, Nat.reduceLT, Nat.reduceEqDiff, Nat.reduceAdd, Nat.reduceSub, Nat.reduceMul, Nat.reduceLeDiff]
  have hlb := hb e (by omega)
  have hall : ∀ x ∈ layL h (placesL h) [], InA h x := fun x hx => (mem_lay_all V).1 hx
  have hne : [] ∈ layL h (placesL h) [] := (mem_lay_all V).2 (InA.nil V)
  have hch := fun b hb => chosen_same V (b := b) hb
  have hRL := fun M => refLayouts_v h V 0 0 M hlb
  generalize layL h (placesL h) [] = all at hlb hne hall hch hRL
  refine fn_call2 (f := 42) (fn := Try.f42) (by kernel_rfl) (by rfl) ?_
  refine (hRL _).mono ?_
  rintro _ _ ⟨⟨X, rfl⟩, rfl⟩
  have h0 : all[0]? = some (all[0]'(List.length_pos_of_mem hne)) := List.getElem?_eq_getElem _
  have hch0 := hch _ (List.getElem_mem (List.length_pos_of_mem hne))
  have hA0 := hall _ (List.getElem_mem (List.length_pos_of_mem hne))
  generalize all[0]'(List.length_pos_of_mem hne) = x0 at h0 hch0 hA0
  have h0' := map_at (f := lyP) h0
  simp (maxSteps := 1000000) only [VL, VM, ↓Gd_none, ↓Gd_t, ↓Gd_f, reduceIte, reduceCtorEq, Int.reduceLE, Int.reduceLT, Int.reduceToNat, Int.reduceNeg, Nat.reduceLT, Nat.reduceEqDiff, Nat.reduceAdd, Nat.reduceSub, Nat.reduceMul, Nat.reduceLeDiff]
  ((repeat refine W_seq ?_); refine W_region0 T_ok ?_)
  simp (maxSteps := 1000000) only [VL, VM, ↓Gd_none, ↓Gd_t, ↓Gd_f, reduceIte, reduceCtorEq, Int.reduceLE, Int.reduceLT, Int.reduceToNat, Int.reduceNeg, Nat.reduceLT, Nat.reduceEqDiff, Nat.reduceAdd, Nat.reduceSub, Nat.reduceMul, Nat.reduceLeDiff, h0']
  ((repeat refine W_seq ?_); refine W_region0 T_ok ?_)
  simp (maxSteps := 1000000) only [VL, VM, ↓Gd_none, ↓Gd_t, ↓Gd_f, reduceIte, reduceCtorEq, Int.reduceLE, Int.reduceLT, Int.reduceToNat, Int.reduceNeg, Nat.reduceLT, Nat.reduceEqDiff, Nat.reduceAdd, Nat.reduceSub, Nat.reduceMul, Nat.reduceLeDiff]
  ((repeat refine W_seq ?_); refine W_block ?_; (repeat refine W_seq ?_)); refine W_loopS (fun s : Nat × List Pu => [(1, .ptr M.H.length 0), (5, .so (M.H.length + 1) 1 (all.map lyP)), (6, pusV s.2), (7, vi s.1)]) (fun _ => ⟨M.H ++ (.obj (hallC h) :: .clm all.length 1 :: X), M.lg⟩) (fun s => all.length - s.1) (fun s => s.1 ≤ all.length ∧ s.2 = chooseL h x0 (all.take s.1) ∧ InA h s.2) (0, x0) ⟨Nat.zero_le _, rfl, hA0⟩ ⟨rfl, rfl, rfl, rfl, trivial⟩ rfl ?_
  rintro ⟨i, b⟩ ⟨hi, hbi, hbA⟩
  simp only at hi hbi hbA
  have k1 : -9223372036854775808 ≤ (i : Int) + 1 ∧ (i : Int) + 1 < 9223372036854775808 := by omega
  ((repeat refine W_seq ?_); refine W_region0 T_ok ?_)
  rcases Nat.lt_or_ge i all.length with hlt | hge
  rotate_left
  · have k2 : ((i : Int) < (all.length : Int)) = False := eq_false (by omega)
    obtain rfl : i = all.length := by omega
    rw [List.take_length, hch0] at hbi
    subst hbi
    simp (maxSteps := 1000000) only [VL, VM, ↓Gd_none, ↓Gd_t, ↓Gd_f, reduceIte, reduceCtorEq, Int.reduceLE, Int.reduceLT, Int.reduceToNat, Int.reduceNeg, Nat.reduceLT, Nat.reduceEqDiff, Nat.reduceAdd, Nat.reduceSub, Nat.reduceMul, Nat.reduceLeDiff, k2]
    ((repeat refine W_seq ?_); refine W_cond (b := false) (by first | rfl | simp only [ev, get_cons, Nat.reduceEqDiff, if_true, if_false, reduceIte]) (fun h => by cases h) (fun _ => ?_))
    ((repeat refine W_seq ?_); refine W_exit ?_)
    simp (maxSteps := 1000000) only [VL, VM, ↓Gd_none, ↓Gd_t, ↓Gd_f, reduceIte, reduceCtorEq, Int.reduceLE, Int.reduceLT, Int.reduceToNat, Int.reduceNeg, Nat.reduceLT, Nat.reduceEqDiff, Nat.reduceAdd, Nat.reduceSub, Nat.reduceMul, Nat.reduceLeDiff]
    ((repeat refine W_seq ?_); refine W_region0 T_ok ?_)
    simp (maxSteps := 1000000) only [VL, VM, ↓Gd_none, ↓Gd_t, ↓Gd_f, reduceIte, reduceCtorEq, Int.reduceLE, Int.reduceLT, Int.reduceToNat, Int.reduceNeg, Nat.reduceLT, Nat.reduceEqDiff, Nat.reduceAdd, Nat.reduceSub, Nat.reduceMul, Nat.reduceLeDiff]
    (repeat refine W_seq ?_)
    refine W_ret ?_
    try simp only [thenQ, blockQ]
    refine own_ret2 rfl ?_ ?_ ?_ rfl
    · simp [get_cons, frz, bestR, bestErr, e, hbig]
    · simp [get_cons, frz, bestR, bestErr, e, hbig]
    · simp [bestR, bestErr, e, hbig, refs]
  have k2 : ((i : Int) < (all.length : Int)) = True := eq_true (by omega)
  have hx := List.getElem?_eq_getElem hlt
  have hA := hall _ (List.getElem_mem hlt)
  have hstep : chooseL h x0 (all.take (i + 1)) = if betterB h all[i] b then all[i] else b := by
    rw [List.take_add_one, hx, hbi]
    unfold chooseL
    rw [List.foldl_append]; rfl
  generalize all[i] = x at hx hA hstep
  have hx' := map_at (f := lyP) hx
  have hxl := hA.len
  have hbl := hbA.len
  simp (maxSteps := 1000000) only [VL, VM, ↓Gd_none, ↓Gd_t, ↓Gd_f, reduceIte, reduceCtorEq, Int.reduceLE, Int.reduceLT, Int.reduceToNat, Int.reduceNeg, Nat.reduceLT, Nat.reduceEqDiff, Nat.reduceAdd, Nat.reduceSub, Nat.reduceMul, Nat.reduceLeDiff, k2]
  ((repeat refine W_seq ?_); refine W_cond (b := true) (by first | rfl | simp only [ev, get_cons, Nat.reduceEqDiff, if_true, if_false, reduceIte]) (fun _ => ?_) (fun h => by cases h))
  ((repeat refine W_seq ?_); refine W_skip ?_)
  simp (maxSteps := 1000000) only [VL, VM, ↓Gd_none, ↓Gd_t, ↓Gd_f, reduceIte, reduceCtorEq, Int.reduceLE, Int.reduceLT, Int.reduceToNat, Int.reduceNeg, Nat.reduceLT, Nat.reduceEqDiff, Nat.reduceAdd, Nat.reduceSub, Nat.reduceMul, Nat.reduceLeDiff]
  ((repeat refine W_seq ?_); refine W_block ?_)
  (repeat refine W_seq ?_)
  refine W_drawP T_ok [] (by kernel_rfl) (by kernel_rfl) ?_
  generalize hi : mkPlan _ = infs
  cbv at hi
  subst hi
  simp (maxSteps := 1000000) only [VL, VM, ↓Gd_none, ↓Gd_t, ↓Gd_f, reduceIte, reduceCtorEq, Int.reduceLE, Int.reduceLT, Int.reduceToNat, Int.reduceNeg, Nat.reduceLT, Nat.reduceEqDiff, Nat.reduceAdd, Nat.reduceSub, Nat.reduceMul, Nat.reduceLeDiff, hx']
  apply call_d (f := 70) (fn := Try.f70) (by kernel_rfl) (by rfl)
  · exact rent_v h x _ V (allowedB_iff.1 hA.1).1.good (by omega)
  simp (maxSteps := 1000000) only [VL, VM, ↓Gd_none, ↓Gd_t, ↓Gd_f, reduceIte, reduceCtorEq, Int.reduceLE, Int.reduceLT, Int.reduceToNat, Int.reduceNeg, Nat.reduceLT, Nat.reduceEqDiff, Nat.reduceAdd, Nat.reduceSub, Nat.reduceMul, Nat.reduceLeDiff, hx']
  apply call_d (f := 70) (fn := Try.f70) (by kernel_rfl) (by rfl)
  · exact rent_v h b _ V (allowedB_iff.1 hbA.1).1.good (by omega)
  simp (maxSteps := 1000000) only [VL, VM, ↓Gd_none, ↓Gd_t, ↓Gd_f, reduceIte, reduceCtorEq, Int.reduceLE, Int.reduceLT, Int.reduceToNat, Int.reduceNeg, Nat.reduceLT, Nat.reduceEqDiff, Nat.reduceAdd, Nat.reduceSub, Nat.reduceMul, Nat.reduceLeDiff, hx']
  have hNA : InA h (if betterB h x b then x else b) := by
    split
    · exact hA
    · exact hbA
  refine WCode.mono (Q := fun ex e' M' D' => ex = .normal ∧ D' = ([] : List Nat) ∧ M' = ⟨M.H ++ (.obj (hallC h) :: .clm all.length 1 :: X), M.lg⟩ ∧ Sub [(1, .ptr M.H.length 0), (5, .so (M.H.length + 1) 1 (all.map lyP)), (6, pusV (if betterB h x b then x else b)), (7, vi i)] e') ?_ ?_
  · ((repeat refine W_seq ?_); refine W_region0 T_ok ?_)
    by_cases r1 : rentOf h b < rentOf h x
    · have hbb : betterB h x b = true := by unfold betterB; simp [r1]
      simp (maxSteps := 1000000) only [VL, VM, ↓Gd_none, ↓Gd_t, ↓Gd_f, reduceIte, reduceCtorEq, Int.reduceLE, Int.reduceLT, Int.reduceToNat, Int.reduceNeg, Nat.reduceLT, Nat.reduceEqDiff, Nat.reduceAdd, Nat.reduceSub, Nat.reduceMul, Nat.reduceLeDiff, eq_true r1, hx']
      ((repeat refine W_seq ?_); refine W_cond (b := true) (by first | rfl | simp only [ev, get_cons, Nat.reduceEqDiff, if_true, if_false, reduceIte]) (fun _ => ?_) (fun h => by cases h))
      ((repeat refine W_seq ?_); refine W_region0 T_ok ?_)
      simp (maxSteps := 1000000) only [VL, VM, ↓Gd_none, ↓Gd_t, ↓Gd_f, reduceIte, reduceCtorEq, Int.reduceLE, Int.reduceLT, Int.reduceToNat, Int.reduceNeg, Nat.reduceLT, Nat.reduceEqDiff, Nat.reduceAdd, Nat.reduceSub, Nat.reduceMul, Nat.reduceLeDiff, hx']
      rw [hbb, if_pos rfl]
      exact ⟨rfl, rfl, rfl, rfl, trivial⟩
    by_cases r2 : rentOf h x = rentOf h b
    rotate_left
    · have hbb : betterB h x b = false := by unfold betterB; simp [r1, r2]
      simp (maxSteps := 1000000) only [VL, VM, ↓Gd_none, ↓Gd_t, ↓Gd_f, reduceIte, reduceCtorEq, Int.reduceLE, Int.reduceLT, Int.reduceToNat, Int.reduceNeg, Nat.reduceLT, Nat.reduceEqDiff, Nat.reduceAdd, Nat.reduceSub, Nat.reduceMul, Nat.reduceLeDiff, eq_false r1, eq_false r2, hx']
      ((repeat refine W_seq ?_); refine W_cond (b := false) (by first | rfl | simp only [ev, get_cons, Nat.reduceEqDiff, if_true, if_false, reduceIte]) (fun h => by cases h) (fun _ => ?_))
      ((repeat refine W_seq ?_); refine W_skip ?_)
      rw [hbb]
      exact ⟨rfl, rfl, rfl, rfl, rfl, rfl, rfl, trivial⟩
    by_cases r3 : x.length < b.length
    · have hbb : betterB h x b = true := by unfold betterB; simp [r2, r3]
      have r4 : ((x.length : Int) < (b.length : Int)) = True := eq_true (by omega)
      simp (maxSteps := 1000000) only [VL, VM, ↓Gd_none, ↓Gd_t, ↓Gd_f, reduceIte, reduceCtorEq, Int.reduceLE, Int.reduceLT, Int.reduceToNat, Int.reduceNeg, Nat.reduceLT, Nat.reduceEqDiff, Nat.reduceAdd, Nat.reduceSub, Nat.reduceMul, Nat.reduceLeDiff, eq_false r1, eq_true r2, r4, hx']
      ((repeat refine W_seq ?_); refine W_cond (b := true) (by first | rfl | simp only [ev, get_cons, Nat.reduceEqDiff, if_true, if_false, reduceIte]) (fun _ => ?_) (fun h => by cases h))
      ((repeat refine W_seq ?_); refine W_region0 T_ok ?_)
      simp (maxSteps := 1000000) only [VL, VM, ↓Gd_none, ↓Gd_t, ↓Gd_f, reduceIte, reduceCtorEq, Int.reduceLE, Int.reduceLT, Int.reduceToNat, Int.reduceNeg, Nat.reduceLT, Nat.reduceEqDiff, Nat.reduceAdd, Nat.reduceSub, Nat.reduceMul, Nat.reduceLeDiff, hx']
      rw [hbb, if_pos rfl]
      exact ⟨rfl, rfl, rfl, rfl, trivial⟩
    have r4 : ((x.length : Int) < (b.length : Int)) = False := eq_false (by omega)
    by_cases r5 : x.length = b.length
    rotate_left
    · have hbb : betterB h x b = false := by unfold betterB; simp [r1, r3, r5]
      have r6 : ((x.length : Int) = (b.length : Int)) = False := eq_false (by omega)
      simp (maxSteps := 1000000) only [VL, VM, ↓Gd_none, ↓Gd_t, ↓Gd_f, reduceIte, reduceCtorEq, Int.reduceLE, Int.reduceLT, Int.reduceToNat, Int.reduceNeg, Nat.reduceLT, Nat.reduceEqDiff, Nat.reduceAdd, Nat.reduceSub, Nat.reduceMul, Nat.reduceLeDiff, eq_false r1, eq_true r2, r4, r6, hx']
      ((repeat refine W_seq ?_); refine W_cond (b := false) (by first | rfl | simp only [ev, get_cons, Nat.reduceEqDiff, if_true, if_false, reduceIte]) (fun h => by cases h) (fun _ => ?_))
      ((repeat refine W_seq ?_); refine W_skip ?_)
      rw [hbb]
      exact ⟨rfl, rfl, rfl, rfl, rfl, rfl, rfl, trivial⟩
    have r6 : ((x.length : Int) = (b.length : Int)) = True := eq_true (by omega)
    have hbb : betterB h x b = firstB x b := by unfold betterB; simp [r2, r5]
    simp (maxSteps := 1000000) only [VL, VM, ↓Gd_none, ↓Gd_t, ↓Gd_f, reduceIte, reduceCtorEq, Int.reduceLE, Int.reduceLT, Int.reduceToNat, Int.reduceNeg, Nat.reduceLT, Nat.reduceEqDiff, Nat.reduceAdd, Nat.reduceSub, Nat.reduceMul, Nat.reduceLeDiff, eq_false r1, eq_true r2, r4, r6, hx']
    apply call_eq (f := 43) (fn := Try.f43) (by kernel_rfl) (by rfl)
    · exact first_v x b _ r5 (by omega)
    simp (maxSteps := 1000000) only [VL, VM, ↓Gd_none, ↓Gd_t, ↓Gd_f, reduceIte, reduceCtorEq, Int.reduceLE, Int.reduceLT, Int.reduceToNat, Int.reduceNeg, Nat.reduceLT, Nat.reduceEqDiff, Nat.reduceAdd, Nat.reduceSub, Nat.reduceMul, Nat.reduceLeDiff, hx']
    cases hfb : firstB x b
    · rw [hfb] at hbb
      ((repeat refine W_seq ?_); refine W_cond (b := false) (by first | rfl | simp only [ev, get_cons, Nat.reduceEqDiff, if_true, if_false, reduceIte]) (fun h => by cases h) (fun _ => ?_))
      ((repeat refine W_seq ?_); refine W_skip ?_)
      rw [hbb]
      exact ⟨rfl, rfl, rfl, rfl, rfl, rfl, rfl, trivial⟩
    · rw [hfb] at hbb
      ((repeat refine W_seq ?_); refine W_cond (b := true) (by first | rfl | simp only [ev, get_cons, Nat.reduceEqDiff, if_true, if_false, reduceIte]) (fun _ => ?_) (fun h => by cases h))
      ((repeat refine W_seq ?_); refine W_region0 T_ok ?_)
      simp (maxSteps := 1000000) only [VL, VM, ↓Gd_none, ↓Gd_t, ↓Gd_f, reduceIte, reduceCtorEq, Int.reduceLE, Int.reduceLT, Int.reduceToNat, Int.reduceNeg, Nat.reduceLT, Nat.reduceEqDiff, Nat.reduceAdd, Nat.reduceSub, Nat.reduceMul, Nat.reduceLeDiff, hx']
      rw [hbb, if_pos rfl]
      exact ⟨rfl, rfl, rfl, rfl, trivial⟩
  · rintro ex e' M' D' ⟨rfl, rfl, rfl, hS⟩
    simp only [blockQ, thenQ]
    refine WCode.weak (e' := [(1, .ptr M.H.length 0), (5, .so (M.H.length + 1) 1 (all.map lyP)), (6, pusV (if betterB h x b then x else b)), (7, vi i)]) ?_ hS.ok
    ((repeat refine W_seq ?_); refine W_region0 T_ok ?_)
    simp (maxSteps := 1000000) only [VL, VM, ↓Gd_none, ↓Gd_t, ↓Gd_f, reduceIte, reduceCtorEq, Int.reduceLE, Int.reduceLT, Int.reduceToNat, Int.reduceNeg, Nat.reduceLT, Nat.reduceEqDiff, Nat.reduceAdd, Nat.reduceSub, Nat.reduceMul, Nat.reduceLeDiff, k1]
    refine LoopK.mk (i + 1, if betterB h x b then x else b) (by simp only; omega) ⟨by simp only; omega, hstep.symm, hNA⟩ ⟨rfl, rfl, rfl, rfl, trivial⟩ rfl
end Go.Proofs.Ytijcmgfblpokhaa.Vm

/- The law of the chosen layout, on values. (Vm) -/
namespace Go.Proofs.Ytijcmgfblpokhaa.Vm
open Go Go.Proofs
theorem v_mulw (T : Tab) (t : Nat) (a b : Int) : vbin T .mul t (vi a) (vi b) = some (vi (IntKind.i64.wrap (a * b))) := fbin_ok T .mul t a b _ (by
  simp only [fbin, wrap64_eq])
theorem v_subw (T : Tab) (t : Nat) (a b : Int) : vbin T .sub t (vi a) (vi b) = some (vi (IntKind.i64.wrap (a - b))) := fbin_ok T .sub t a b _ (by
  simp only [fbin, wrap64_eq])
theorem sameBest_s (h : Ha) (M : Mem) : VC Try.prog 21 ([bestR h, bestR h].map strip1) M (fun r M' => M' = M ∧ r = vb true) := by
  by_cases e : bestErr h = 0
  · rw [show bestR h = pusV (bestL h) from if_pos e]
    have hv : hallErr h = 0 := by
      unfold bestErr at e
      by_cases h1 : hallErr h = 0
      · exact h1
      · rw [if_pos h1] at e; exact absurd e h1
    obtain ⟨_, bA, _⟩ := best_spec (VH.of hv)
    have hl := bA.len
    have h3 := sameLayouts_v (bestL h) (bestL h) M (by omega) (by omega)
    rw [decide_eq_true rfl] at h3
    exact h3
  · rw [show bestR h = .p (.sl 0 []) from if_neg e]
    show VC Try.prog 21 [.p (.sl 0 []), .p (.sl 0 [])] M _
    refine VC_own' T_ok (f := 21) (fn := Try.f21) (by kernel_rfl) rfl Try.ntmps21 (by rfl) (by rfl) ?_
    ((repeat refine W_seq ?_); refine W_region0 T_ok ?_)
    simp (maxSteps := 1000000) only [VL, VM, ↓Gd_none, ↓Gd_t, ↓Gd_f, reduceIte, reduceCtorEq, Int.reduceLE, Int.reduceLT, Int.reduceToNat, Int.reduceNeg, Nat.reduceLT, Nat.reduceEqDiff, Nat.reduceAdd, Nat.reduceSub, Nat.reduceMul, Nat.reduceLeDiff]
    ((repeat refine W_seq ?_); refine W_region0 T_ok ?_)
    simp (maxSteps := 1000000) only [VL, VM, ↓Gd_none, ↓Gd_t, ↓Gd_f, reduceIte, reduceCtorEq, Int.reduceLE, Int.reduceLT, Int.reduceToNat, Int.reduceNeg, Nat.reduceLT, Nat.reduceEqDiff, Nat.reduceAdd, Nat.reduceSub, Nat.reduceMul, Nat.reduceLeDiff, eq_self, decide_true]
    ((repeat refine W_seq ?_); refine W_region0 T_ok ?_)
    simp (maxSteps := 1000000) only [VL, VM, ↓Gd_none, ↓Gd_t, ↓Gd_f, reduceIte, reduceCtorEq, Int.reduceLE, Int.reduceLT, Int.reduceToNat, Int.reduceNeg, Nat.reduceLT, Nat.reduceEqDiff, Nat.reduceAdd, Nat.reduceSub, Nat.reduceMul, Nat.reduceLeDiff]
    ((repeat refine W_seq ?_); refine W_block ?_; (repeat refine W_seq ?_))
    refine W_loopS (fun i : Nat => [(0, .p (.sl 0 [])), (5, vb true), (6, vi 0)]) (fun _ => M) (fun i => 0) (fun i => True) 0 trivial ⟨rfl, rfl, rfl, trivial⟩ rfl ?_
    rintro i _
    ((repeat refine W_seq ?_); refine W_region0 T_ok ?_)
    simp (maxSteps := 1000000) only [VL, VM, ↓Gd_none, ↓Gd_t, ↓Gd_f, reduceIte, reduceCtorEq, Int.reduceLE, Int.reduceLT, Int.reduceToNat, Int.reduceNeg, Nat.reduceLT, Nat.reduceEqDiff, Nat.reduceAdd, Nat.reduceSub, Nat.reduceMul, Nat.reduceLeDiff, Int.lt_irrefl, decide_false]
    ((repeat refine W_seq ?_); refine W_cond (b := false) (by first | rfl | simp only [ev, get_cons, Nat.reduceEqDiff, if_true, if_false, reduceIte]) (fun h => by cases h) (fun _ => ?_))
    ((repeat refine W_seq ?_); refine W_exit ?_)
    simp (maxSteps := 1000000) only [VL, VM, ↓Gd_none, ↓Gd_t, ↓Gd_f, reduceIte, reduceCtorEq, Int.reduceLE, Int.reduceLT, Int.reduceToNat, Int.reduceNeg, Nat.reduceLT, Nat.reduceEqDiff, Nat.reduceAdd, Nat.reduceSub, Nat.reduceMul, Nat.reduceLeDiff]
    ((repeat refine W_seq ?_); refine W_region0 T_ok ?_)
    simp (maxSteps := 1000000) only [VL, VM, ↓Gd_none, ↓Gd_t, ↓Gd_f, reduceIte, reduceCtorEq, Int.reduceLE, Int.reduceLT, Int.reduceToNat, Int.reduceNeg, Nat.reduceLT, Nat.reduceEqDiff, Nat.reduceAdd, Nat.reduceSub, Nat.reduceMul, Nat.reduceLeDiff]
    (repeat refine W_seq ?_)
    refine W_ret ?_
    try simp only [thenQ, blockQ]
    refine own_ret10 rfl ?_ (by rfl)
    simp only [get_cons, frz, vtup, Nat.reduceEqDiff, if_true, if_false, reduceIte]
set_option maxHeartbeats 2000000 in
set_option maxRecDepth 100000 in
theorem chosen_law_v (awake : ∀ M, VC Try.prog 15 [] M (fun r M' => M' = M ∧ r = vb true)) (h : Ha) (xs : List Int) (M : Mem) (hl : xs.length ≤ maxLen) (hk : h.kinds.length ≤ maxLen) (hsh : h.shut.length ≤ maxLen) : VC Try.prog 3 [hallV h, intsV xs] M (fun r M' => M' = M ∧ r = vb true) := by
  have hmx : maxLen ≤ 9223372036854775807 := by unfold maxLen; omega
  refine VC_own' T_ok (f := 3) (fn := Try.f3) (by kernel_rfl) rfl Try.ntmps3 (by rfl) (by rfl) ?_
  ((repeat refine W_seq ?_); refine W_region0 T_ok ?_)
  simp (maxSteps := 1000000) only [VL, VM, ↓Gd_none, ↓Gd_t, ↓Gd_f, reduceIte, reduceCtorEq, Int.reduceLE, Int.reduceLT, Int.reduceToNat, Int.reduceNeg, Nat.reduceLT, Nat.reduceEqDiff, Nat.reduceAdd, Nat.reduceSub, Nat.reduceMul, Nat.reduceLeDiff]
  ((repeat refine W_seq ?_); refine W_region0 T_ok ?_)
  simp (maxSteps := 1000000) only [VL, VM, ↓Gd_none, ↓Gd_t, ↓Gd_f, reduceIte, reduceCtorEq, Int.reduceLE, Int.reduceLT, Int.reduceToNat, Int.reduceNeg, Nat.reduceLT, Nat.reduceEqDiff, Nat.reduceAdd, Nat.reduceSub, Nat.reduceMul, Nat.reduceLeDiff, v_mulw, v_subw]
  generalize hn : IntKind.i64.wrap (IntKind.i64.wrap (h.wide * h.deep) - (h.shut.length : Int)) = n
  cases hvast : vastB h with
  | true =>
    ((repeat refine W_seq ?_); refine W_region0 T_ok ?_)
    simp (maxSteps := 1000000) only [VL, VM, ↓Gd_none, ↓Gd_t, ↓Gd_f, reduceIte, reduceCtorEq, Int.reduceLE, Int.reduceLT, Int.reduceToNat, Int.reduceNeg, Nat.reduceLT, Nat.reduceEqDiff, Nat.reduceAdd, Nat.reduceSub, Nat.reduceMul, Nat.reduceLeDiff]
    apply call_eq (f := 13) (fn := Try.f13) (by kernel_rfl) (by rfl)
    · exact vast_v h _ (by omega)
    simp (maxSteps := 1000000) only [VL, VM, ↓Gd_none, ↓Gd_t, ↓Gd_f, reduceIte, reduceCtorEq, Int.reduceLE, Int.reduceLT, Int.reduceToNat, Int.reduceNeg, Nat.reduceLT, Nat.reduceEqDiff, Nat.reduceAdd, Nat.reduceSub, Nat.reduceMul, Nat.reduceLeDiff, hvast]
    ((repeat refine W_seq ?_); refine W_cond (b := true) (by first | rfl | simp only [ev, get_cons, Nat.reduceEqDiff, if_true, if_false, reduceIte]) (fun _ => ?_) (fun h => by cases h))
    ((repeat refine W_seq ?_); refine W_region0 T_ok ?_)
    simp (maxSteps := 1000000) only [VL, VM, ↓Gd_none, ↓Gd_t, ↓Gd_f, reduceIte, reduceCtorEq, Int.reduceLE, Int.reduceLT, Int.reduceToNat, Int.reduceNeg, Nat.reduceLT, Nat.reduceEqDiff, Nat.reduceAdd, Nat.reduceSub, Nat.reduceMul, Nat.reduceLeDiff]
    apply call_eq (f := 15) (fn := Try.f15) (by kernel_rfl) (by rfl)
    · exact awake _
    simp (maxSteps := 1000000) only [VL, VM, ↓Gd_none, ↓Gd_t, ↓Gd_f, reduceIte, reduceCtorEq, Int.reduceLE, Int.reduceLT, Int.reduceToNat, Int.reduceNeg, Nat.reduceLT, Nat.reduceEqDiff, Nat.reduceAdd, Nat.reduceSub, Nat.reduceMul, Nat.reduceLeDiff]
    (repeat refine W_seq ?_)
    refine W_ret ?_
    try simp only [thenQ, blockQ]
    refine own_ret1 rfl ?_ (by rfl)
    simp only [get_cons, frz, vtup, Nat.reduceEqDiff, if_true, if_false, reduceIte]
  | false =>
  have F0 := not_vast hvast
  by_cases hP : hallErr h = 0 ∧ n ≤ 8 ∧ (5 < n ∨ 3 < h.kinds.length)
--[
  · obtain ⟨p1, p2, p3⟩ := hP
    ((repeat refine W_seq ?_); refine W_region0 T_ok ?_)
    simp (maxSteps := 1000000) only [VL, VM, ↓Gd_none, ↓Gd_t, ↓Gd_f, reduceIte, reduceCtorEq, Int.reduceLE, Int.reduceLT, Int.reduceToNat, Int.reduceNeg, Nat.reduceLT, Nat.reduceEqDiff, Nat.reduceAdd, Nat.reduceSub, Nat.reduceMul, Nat.reduceLeDiff]
    apply call_eq (f := 13) (fn := Try.f13) (by kernel_rfl) (by rfl)
    · exact vast_v h _ (by omega)
    simp (maxSteps := 1000000) only [VL, VM, ↓Gd_none, ↓Gd_t, ↓Gd_f, reduceIte, reduceCtorEq, Int.reduceLE, Int.reduceLT, Int.reduceToNat, Int.reduceNeg, Nat.reduceLT, Nat.reduceEqDiff, Nat.reduceAdd, Nat.reduceSub, Nat.reduceMul, Nat.reduceLeDiff, hvast]
    apply call_eq (f := 14) (fn := Try.f14) (by kernel_rfl) (by rfl)
    · exact check_v h _ F0
    by_cases p4 : 5 < n
    · simp (maxSteps := 1000000) only [VL, VM, ↓Gd_none, ↓Gd_t, ↓Gd_f, reduceIte, reduceCtorEq, Int.reduceLE, Int.reduceLT, Int.reduceToNat, Int.reduceNeg, Nat.reduceLT, Nat.reduceEqDiff, Nat.reduceAdd, Nat.reduceSub, Nat.reduceMul, Nat.reduceLeDiff, p1, eq_self, decide_true, eq_true p2, eq_true p4]
      ((repeat refine W_seq ?_); refine W_cond (b := true) (by first | rfl | simp only [ev, get_cons, Nat.reduceEqDiff, if_true, if_false, reduceIte]) (fun _ => ?_) (fun h => by cases h))
      ((repeat refine W_seq ?_); refine W_region0 T_ok ?_)
      simp (maxSteps := 1000000) only [VL, VM, ↓Gd_none, ↓Gd_t, ↓Gd_f, reduceIte, reduceCtorEq, Int.reduceLE, Int.reduceLT, Int.reduceToNat, Int.reduceNeg, Nat.reduceLT, Nat.reduceEqDiff, Nat.reduceAdd, Nat.reduceSub, Nat.reduceMul, Nat.reduceLeDiff]
      apply call_eq (f := 15) (fn := Try.f15) (by kernel_rfl) (by rfl)
      · exact awake _
      simp (maxSteps := 1000000) only [VL, VM, ↓Gd_none, ↓Gd_t, ↓Gd_f, reduceIte, reduceCtorEq, Int.reduceLE, Int.reduceLT, Int.reduceToNat, Int.reduceNeg, Nat.reduceLT, Nat.reduceEqDiff, Nat.reduceAdd, Nat.reduceSub, Nat.reduceMul, Nat.reduceLeDiff]
      (repeat refine W_seq ?_)
      refine W_ret ?_
      try simp only [thenQ, blockQ]
      refine own_ret1 rfl ?_ (by rfl)
      simp only [get_cons, frz, vtup, Nat.reduceEqDiff, if_true, if_false, reduceIte]
    · have p5 : ((3 : Int) < (h.kinds.length : Int)) = True := eq_true (by omega)
      simp (maxSteps := 1000000) only [VL, VM, ↓Gd_none, ↓Gd_t, ↓Gd_f, reduceIte, reduceCtorEq, Int.reduceLE, Int.reduceLT, Int.reduceToNat, Int.reduceNeg, Nat.reduceLT, Nat.reduceEqDiff, Nat.reduceAdd, Nat.reduceSub, Nat.reduceMul, Nat.reduceLeDiff, p1, eq_self, decide_true, eq_true p2, eq_false p4, p5]
      ((repeat refine W_seq ?_); refine W_cond (b := true) (by first | rfl | simp only [ev, get_cons, Nat.reduceEqDiff, if_true, if_false, reduceIte]) (fun _ => ?_) (fun h => by cases h))
      ((repeat refine W_seq ?_); refine W_region0 T_ok ?_)
      simp (maxSteps := 1000000) only [VL, VM, ↓Gd_none, ↓Gd_t, ↓Gd_f, reduceIte, reduceCtorEq, Int.reduceLE, Int.reduceLT, Int.reduceToNat, Int.reduceNeg, Nat.reduceLT, Nat.reduceEqDiff, Nat.reduceAdd, Nat.reduceSub, Nat.reduceMul, Nat.reduceLeDiff]
      apply call_eq (f := 15) (fn := Try.f15) (by kernel_rfl) (by rfl)
      · exact awake _
      simp (maxSteps := 1000000) only [VL, VM, ↓Gd_none, ↓Gd_t, ↓Gd_f, reduceIte, reduceCtorEq, Int.reduceLE, Int.reduceLT, Int.reduceToNat, Int.reduceNeg, Nat.reduceLT, Nat.reduceEqDiff, Nat.reduceAdd, Nat.reduceSub, Nat.reduceMul, Nat.reduceLeDiff]
      (repeat refine W_seq ?_)
      refine W_ret ?_
      try simp only [thenQ, blockQ]
      refine own_ret1 rfl ?_ (by rfl)
      simp only [get_cons, frz, vtup, Nat.reduceEqDiff, if_true, if_false, reduceIte]
--]
  refine W_seq ?_
  refine W_then [(1, intsV xs), (2, .ptr M.H.length 0), (42, vb false)] ⟨M.H ++ [.obj (hallC h)], M.lg⟩ ?_ (fun e' hS => WCode.weak (e' := [(1, intsV xs), (2, .ptr M.H.length 0), (42, vb false)]) ?_ hS.ok)
  · ((repeat refine W_seq ?_); refine W_region0 T_ok ?_)
    simp (maxSteps := 1000000) only [VL, VM, ↓Gd_none, ↓Gd_t, ↓Gd_f, reduceIte, reduceCtorEq, Int.reduceLE, Int.reduceLT, Int.reduceToNat, Int.reduceNeg, Nat.reduceLT, Nat.reduceEqDiff, Nat.reduceAdd, Nat.reduceSub, Nat.reduceMul, Nat.reduceLeDiff]
    apply call_eq (f := 13) (fn := Try.f13) (by kernel_rfl) (by rfl)
    · exact vast_v h _ (by omega)
    simp (maxSteps := 1000000) only [VL, VM, ↓Gd_none, ↓Gd_t, ↓Gd_f, reduceIte, reduceCtorEq, Int.reduceLE, Int.reduceLT, Int.reduceToNat, Int.reduceNeg, Nat.reduceLT, Nat.reduceEqDiff, Nat.reduceAdd, Nat.reduceSub, Nat.reduceMul, Nat.reduceLeDiff, hvast]
    apply call_eq (f := 14) (fn := Try.f14) (by kernel_rfl) (by rfl)
    · exact check_v h _ F0
    by_cases p1 : hallErr h = 0
    rotate_left
    · simp (maxSteps := 1000000) only [VL, VM, ↓Gd_none, ↓Gd_t, ↓Gd_f, reduceIte, reduceCtorEq, Int.reduceLE, Int.reduceLT, Int.reduceToNat, Int.reduceNeg, Nat.reduceLT, Nat.reduceEqDiff, Nat.reduceAdd, Nat.reduceSub, Nat.reduceMul, Nat.reduceLeDiff, eq_false p1]
      exact ⟨rfl, rfl, rfl, trivial⟩
    by_cases p2 : n ≤ 8
    rotate_left
    · simp (maxSteps := 1000000) only [VL, VM, ↓Gd_none, ↓Gd_t, ↓Gd_f, reduceIte, reduceCtorEq, Int.reduceLE, Int.reduceLT, Int.reduceToNat, Int.reduceNeg, Nat.reduceLT, Nat.reduceEqDiff, Nat.reduceAdd, Nat.reduceSub, Nat.reduceMul, Nat.reduceLeDiff, p1, eq_self, decide_true, eq_false p2]
      exact ⟨rfl, rfl, rfl, trivial⟩
    have p4 : ¬ 5 < n := fun q => hP ⟨p1, p2, .inl q⟩
    have p5 : ((3 : Int) < (h.kinds.length : Int)) = False := eq_false (fun q => hP ⟨p1, p2, .inr (by omega)⟩)
    simp (maxSteps := 1000000) only [VL, VM, ↓Gd_none, ↓Gd_t, ↓Gd_f, reduceIte, reduceCtorEq, Int.reduceLE, Int.reduceLT, Int.reduceToNat, Int.reduceNeg, Nat.reduceLT, Nat.reduceEqDiff, Nat.reduceAdd, Nat.reduceSub, Nat.reduceMul, Nat.reduceLeDiff, p1, eq_self, decide_true, eq_true p2, eq_false p4, p5]
    exact ⟨rfl, rfl, rfl, trivial⟩
  ((repeat refine W_seq ?_); refine W_cond (b := false) (by first | rfl | simp only [ev, get_cons, Nat.reduceEqDiff, if_true, if_false, reduceIte]) (fun h => by cases h) (fun _ => ?_))
  ((repeat refine W_seq ?_); refine W_skip ?_)
  simp (maxSteps := 1000000) only [VL, VM, ↓Gd_none, ↓Gd_t, ↓Gd_f, reduceIte, reduceCtorEq, Int.reduceLE, Int.reduceLT, Int.reduceToNat, Int.reduceNeg, Nat.reduceLT, Nat.reduceEqDiff, Nat.reduceAdd, Nat.reduceSub, Nat.reduceMul, Nat.reduceLeDiff]
  have hb0 : hallErr h = 0 → (openL h).length ≤ 8 → (layL h (placesL h) []).length ≤ 1000000 := by
    intro p1 p2
    have V := VH.of p1
    have hol := open_len V
    have w1 := V.w1
    have w2 := V.w2
    have d1 := V.d1
    have d2 := V.d2
    have sl := V.shut_len
    have hm : 0 ≤ h.wide * h.deep ∧ h.wide * h.deep ≤ 6 * 4 := ⟨Int.mul_nonneg (by omega) (by omega), Int.mul_le_mul w2 d2 (by omega) (by omega)⟩
    have hn' : n = ((openL h).length : Int) := by
      have e1 : IntKind.i64.wrap (h.wide * h.deep) = h.wide * h.deep := IntWalk.i64_in _ (by omega)
      rw [← hn, e1, ← hol]
      exact IntWalk.i64_in _ (by omega)
    refine lay_bound (n := 5) (k := 3) ?_ ?_ (by decide)
    · apply Decidable.byContradiction
      intro q
      exact hP ⟨p1, by omega, .inl (by omega)⟩
    · apply Decidable.byContradiction
      intro q
      exact hP ⟨p1, by omega, .inr (by omega)⟩
  obtain ⟨M1, hM1⟩ : ∃ M1, M1 = M.H ++ [VObj.obj (hallC h)] := ⟨_, rfl⟩
  obtain ⟨H0, hH0⟩ : ∃ H0, H0 = M1 ++ [VObj.dead] := ⟨_, rfl⟩
  obtain ⟨d, hdd⟩ : ∃ d, d = M1.length := ⟨_, rfl⟩
  have hd : d < H0.length := by rw [hH0, hdd]; simp
  have tail : ∀ u L, DH H0 d u L = M.H ++ (VObj.obj (hallC h) :: .obj [uv u] :: L) := fun u L => by
    rw [hH0, hdd]
    have := DH_tail ⟨M1, M.lg⟩ u L
    rw [this, hM1]
    simp
  have hh0 : ∀ u L, (DH H0 d u L)[M.H.length]? = some (.obj (hallC h)) := fun u L => by rw [tail]; simp
  refine W_seq ?_
  refine WCode.mono (Q := fun ex e' M' D' => ex = .normal ∧ D' = ([] : List Nat) ∧ ∃ (made : Ha) (u1 : Int) (wd dp : Nat), HGood wd dp made ∧ (wd : Int) ≤ 3 ∧ (dp : Int) ≤ 2 ∧ (made.kinds.length : Int) ≤ 2 ∧ M' = ⟨M.H ++ (VObj.obj (hallC h) :: .obj [uv u1] :: []), M.lg⟩ ∧ Sub [(6, .sf 8 [hallPP h, hallPP made])] e') ?_ ?_
--[
  · refine W_any T_ok ?_
    refine any_two (n := 5) 0 1 (by kernel_rfl) _ rfl _ rfl ?_ ?_
    · simp (maxSteps := 1000000) only [List.getElem_toArray, List.getElem_cons_zero, List.getElem_cons_succ, VL, VM, ↓Gd_none, ↓Gd_t, ↓Gd_f, reduceIte, reduceCtorEq, Int.reduceLE, Int.reduceLT, Int.reduceToNat, Int.reduceNeg, Nat.reduceLT, Nat.reduceEqDiff, Nat.reduceAdd, Nat.reduceSub, Nat.reduceMul, Nat.reduceLeDiff]
      refine any_one 1 (by kernel_rfl) _ rfl ?_
      simp (maxSteps := 1000000) only [List.getElem_toArray, List.getElem_cons_zero, List.getElem_cons_succ, VL, VM, ↓Gd_none, ↓Gd_t, ↓Gd_f, reduceIte, reduceCtorEq, Int.reduceLE, Int.reduceLT, Int.reduceToNat, Int.reduceNeg, Nat.reduceLT, Nat.reduceEqDiff, Nat.reduceAdd, Nat.reduceSub, Nat.reduceMul, Nat.reduceLeDiff]
      refine any_one 2 (by kernel_rfl) _ rfl ?_
      simp (maxSteps := 1000000) only [List.getElem_toArray, List.getElem_cons_zero, List.getElem_cons_succ, VL, VM, ↓Gd_none, ↓Gd_t, ↓Gd_f, reduceIte, reduceCtorEq, Int.reduceLE, Int.reduceLT, Int.reduceToNat, Int.reduceNeg, Nat.reduceLT, Nat.reduceEqDiff, Nat.reduceAdd, Nat.reduceSub, Nat.reduceMul, Nat.reduceLeDiff]
      apply call_eq (f := 17) (fn := Try.f17) (by kernel_rfl) (by rfl)
      · exact dieOf_v xs _ hl
      rw [← hM1, ← hH0, ← hdd]
      simp (maxSteps := 1000000) only [List.getElem_toArray, List.getElem_cons_zero, List.getElem_cons_succ, VL, VM, ↓Gd_none, ↓Gd_t, ↓Gd_f, reduceIte, reduceCtorEq, Int.reduceLE, Int.reduceLT, Int.reduceToNat, Int.reduceNeg, Nat.reduceLT, Nat.reduceEqDiff, Nat.reduceAdd, Nat.reduceSub, Nat.reduceMul, Nat.reduceLeDiff]
      refine any_one 3 (by kernel_rfl) _ rfl ?_
      simp (maxSteps := 1000000) only [List.getElem_toArray, List.getElem_cons_zero, List.getElem_cons_succ, VL, VM, ↓Gd_none, ↓Gd_t, ↓Gd_f, reduceIte, reduceCtorEq, Int.reduceLE, Int.reduceLT, Int.reduceToNat, Int.reduceNeg, Nat.reduceLT, Nat.reduceEqDiff, Nat.reduceAdd, Nat.reduceSub, Nat.reduceMul, Nat.reduceLeDiff]
      refine fn_call (f := 16) (fn := Try.f16) (by kernel_rfl) (by rfl) ?_
      refine (hallOf_v hd (dieU xs) M.lg 3 2 2 (by omega) (by omega) (by omega)).mono ?_
      rintro _ _ ⟨made, u1, wd, dp, rfl, rfl, hG, hW, hD, hN⟩
      simp (maxSteps := 1000000) only [List.getElem_toArray, List.getElem_cons_zero, List.getElem_cons_succ, VL, VM, ↓Gd_none, ↓Gd_t, ↓Gd_f, reduceIte, reduceCtorEq, Int.reduceLE, Int.reduceLT, Int.reduceToNat, Int.reduceNeg, Nat.reduceLT, Nat.reduceEqDiff, Nat.reduceAdd, Nat.reduceSub, Nat.reduceMul, Nat.reduceLeDiff]
      refine any_one 4 (by kernel_rfl) _ rfl ?_
      simp (maxSteps := 1000000) only [List.getElem_toArray, List.getElem_cons_zero, List.getElem_cons_succ, VL, VM, ↓Gd_none, ↓Gd_t, ↓Gd_f, reduceIte, reduceCtorEq, Int.reduceLE, Int.reduceLT, Int.reduceToNat, Int.reduceNeg, Nat.reduceLT, Nat.reduceEqDiff, Nat.reduceAdd, Nat.reduceSub, Nat.reduceMul, Nat.reduceLeDiff]
      refine any_one 5 (by kernel_rfl) _ rfl ?_
      simp (maxSteps := 1000000) only [List.getElem_toArray, List.getElem_cons_zero, List.getElem_cons_succ, VL, VM, ↓Gd_none, ↓Gd_t, ↓Gd_f, reduceIte, reduceCtorEq, Int.reduceLE, Int.reduceLT, Int.reduceToNat, Int.reduceNeg, Nat.reduceLT, Nat.reduceEqDiff, Nat.reduceAdd, Nat.reduceSub, Nat.reduceMul, Nat.reduceLeDiff]
      exact any_end (by kernel_rfl) ⟨made, u1, wd, dp, hG, hW, hD, hN, by rw [tail], rfl, trivial⟩
    · simp (maxSteps := 1000000) only [List.getElem_toArray, List.getElem_cons_zero, List.getElem_cons_succ, VL, VM, ↓Gd_none, ↓Gd_t, ↓Gd_f, reduceIte, reduceCtorEq, Int.reduceLE, Int.reduceLT, Int.reduceToNat, Int.reduceNeg, Nat.reduceLT, Nat.reduceEqDiff, Nat.reduceAdd, Nat.reduceSub, Nat.reduceMul, Nat.reduceLeDiff]
      refine any_two 0 2 (by kernel_rfl) _ rfl _ rfl ?_ ?_
      · simp (maxSteps := 1000000) only [List.getElem_toArray, List.getElem_cons_zero, List.getElem_cons_succ, VL, VM, ↓Gd_none, ↓Gd_t, ↓Gd_f, reduceIte, reduceCtorEq, Int.reduceLE, Int.reduceLT, Int.reduceToNat, Int.reduceNeg, Nat.reduceLT, Nat.reduceEqDiff, Nat.reduceAdd, Nat.reduceSub, Nat.reduceMul, Nat.reduceLeDiff]
        refine any_one 2 (by kernel_rfl) _ rfl ?_
        simp (maxSteps := 1000000) only [List.getElem_toArray, List.getElem_cons_zero, List.getElem_cons_succ, VL, VM, ↓Gd_none, ↓Gd_t, ↓Gd_f, reduceIte, reduceCtorEq, Int.reduceLE, Int.reduceLT, Int.reduceToNat, Int.reduceNeg, Nat.reduceLT, Nat.reduceEqDiff, Nat.reduceAdd, Nat.reduceSub, Nat.reduceMul, Nat.reduceLeDiff]
        apply call_eq (f := 17) (fn := Try.f17) (by kernel_rfl) (by rfl)
        · exact dieOf_v xs _ hl
        rw [← hM1, ← hH0, ← hdd]
        simp (maxSteps := 1000000) only [List.getElem_toArray, List.getElem_cons_zero, List.getElem_cons_succ, VL, VM, ↓Gd_none, ↓Gd_t, ↓Gd_f, reduceIte, reduceCtorEq, Int.reduceLE, Int.reduceLT, Int.reduceToNat, Int.reduceNeg, Nat.reduceLT, Nat.reduceEqDiff, Nat.reduceAdd, Nat.reduceSub, Nat.reduceMul, Nat.reduceLeDiff]
        refine any_one 3 (by kernel_rfl) _ rfl ?_
        simp (maxSteps := 1000000) only [List.getElem_toArray, List.getElem_cons_zero, List.getElem_cons_succ, VL, VM, ↓Gd_none, ↓Gd_t, ↓Gd_f, reduceIte, reduceCtorEq, Int.reduceLE, Int.reduceLT, Int.reduceToNat, Int.reduceNeg, Nat.reduceLT, Nat.reduceEqDiff, Nat.reduceAdd, Nat.reduceSub, Nat.reduceMul, Nat.reduceLeDiff]
        refine fn_call (f := 16) (fn := Try.f16) (by kernel_rfl) (by rfl) ?_
        refine (hallOf_v hd (dieU xs) M.lg 3 2 2 (by omega) (by omega) (by omega)).mono ?_
        rintro _ _ ⟨made, u1, wd, dp, rfl, rfl, hG, hW, hD, hN⟩
        simp (maxSteps := 1000000) only [List.getElem_toArray, List.getElem_cons_zero, List.getElem_cons_succ, VL, VM, ↓Gd_none, ↓Gd_t, ↓Gd_f, reduceIte, reduceCtorEq, Int.reduceLE, Int.reduceLT, Int.reduceToNat, Int.reduceNeg, Nat.reduceLT, Nat.reduceEqDiff, Nat.reduceAdd, Nat.reduceSub, Nat.reduceMul, Nat.reduceLeDiff]
        refine any_one 4 (by kernel_rfl) _ rfl ?_
        simp (maxSteps := 1000000) only [List.getElem_toArray, List.getElem_cons_zero, List.getElem_cons_succ, VL, VM, ↓Gd_none, ↓Gd_t, ↓Gd_f, reduceIte, reduceCtorEq, Int.reduceLE, Int.reduceLT, Int.reduceToNat, Int.reduceNeg, Nat.reduceLT, Nat.reduceEqDiff, Nat.reduceAdd, Nat.reduceSub, Nat.reduceMul, Nat.reduceLeDiff]
        refine any_one 5 (by kernel_rfl) _ rfl ?_
        simp (maxSteps := 1000000) only [List.getElem_toArray, List.getElem_cons_zero, List.getElem_cons_succ, VL, VM, ↓Gd_none, ↓Gd_t, ↓Gd_f, reduceIte, reduceCtorEq, Int.reduceLE, Int.reduceLT, Int.reduceToNat, Int.reduceNeg, Nat.reduceLT, Nat.reduceEqDiff, Nat.reduceAdd, Nat.reduceSub, Nat.reduceMul, Nat.reduceLeDiff]
        exact any_end (by kernel_rfl) ⟨made, u1, wd, dp, hG, hW, hD, hN, by rw [tail], rfl, trivial⟩
      · simp (maxSteps := 1000000) only [List.getElem_toArray, List.getElem_cons_zero, List.getElem_cons_succ, VL, VM, ↓Gd_none, ↓Gd_t, ↓Gd_f, reduceIte, reduceCtorEq, Int.reduceLE, Int.reduceLT, Int.reduceToNat, Int.reduceNeg, Nat.reduceLT, Nat.reduceEqDiff, Nat.reduceAdd, Nat.reduceSub, Nat.reduceMul, Nat.reduceLeDiff]
        apply call_eq (f := 17) (fn := Try.f17) (by kernel_rfl) (by rfl)
        · exact dieOf_v xs _ hl
        rw [← hM1, ← hH0, ← hdd]
        simp (maxSteps := 1000000) only [List.getElem_toArray, List.getElem_cons_zero, List.getElem_cons_succ, VL, VM, ↓Gd_none, ↓Gd_t, ↓Gd_f, reduceIte, reduceCtorEq, Int.reduceLE, Int.reduceLT, Int.reduceToNat, Int.reduceNeg, Nat.reduceLT, Nat.reduceEqDiff, Nat.reduceAdd, Nat.reduceSub, Nat.reduceMul, Nat.reduceLeDiff]
        refine any_two 0 3 (by kernel_rfl) _ rfl _ rfl ?_ ?_
        · simp (maxSteps := 1000000) only [List.getElem_toArray, List.getElem_cons_zero, List.getElem_cons_succ, VL, VM, ↓Gd_none, ↓Gd_t, ↓Gd_f, reduceIte, reduceCtorEq, Int.reduceLE, Int.reduceLT, Int.reduceToNat, Int.reduceNeg, Nat.reduceLT, Nat.reduceEqDiff, Nat.reduceAdd, Nat.reduceSub, Nat.reduceMul, Nat.reduceLeDiff, hh0]
          refine any_one 3 (by kernel_rfl) _ rfl ?_
          simp (maxSteps := 1000000) only [List.getElem_toArray, List.getElem_cons_zero, List.getElem_cons_succ, VL, VM, ↓Gd_none, ↓Gd_t, ↓Gd_f, reduceIte, reduceCtorEq, Int.reduceLE, Int.reduceLT, Int.reduceToNat, Int.reduceNeg, Nat.reduceLT, Nat.reduceEqDiff, Nat.reduceAdd, Nat.reduceSub, Nat.reduceMul, Nat.reduceLeDiff]
          refine fn_call (f := 16) (fn := Try.f16) (by kernel_rfl) (by rfl) ?_
          refine (hallOf_v hd (dieU xs) M.lg 3 2 2 (by omega) (by omega) (by omega)).mono ?_
          rintro _ _ ⟨made, u1, wd, dp, rfl, rfl, hG, hW, hD, hN⟩
          simp (maxSteps := 1000000) only [List.getElem_toArray, List.getElem_cons_zero, List.getElem_cons_succ, VL, VM, ↓Gd_none, ↓Gd_t, ↓Gd_f, reduceIte, reduceCtorEq, Int.reduceLE, Int.reduceLT, Int.reduceToNat, Int.reduceNeg, Nat.reduceLT, Nat.reduceEqDiff, Nat.reduceAdd, Nat.reduceSub, Nat.reduceMul, Nat.reduceLeDiff]
          refine any_one 4 (by kernel_rfl) _ rfl ?_
          simp (maxSteps := 1000000) only [List.getElem_toArray, List.getElem_cons_zero, List.getElem_cons_succ, VL, VM, ↓Gd_none, ↓Gd_t, ↓Gd_f, reduceIte, reduceCtorEq, Int.reduceLE, Int.reduceLT, Int.reduceToNat, Int.reduceNeg, Nat.reduceLT, Nat.reduceEqDiff, Nat.reduceAdd, Nat.reduceSub, Nat.reduceMul, Nat.reduceLeDiff]
          refine any_one 5 (by kernel_rfl) _ rfl ?_
          simp (maxSteps := 1000000) only [List.getElem_toArray, List.getElem_cons_zero, List.getElem_cons_succ, VL, VM, ↓Gd_none, ↓Gd_t, ↓Gd_f, reduceIte, reduceCtorEq, Int.reduceLE, Int.reduceLT, Int.reduceToNat, Int.reduceNeg, Nat.reduceLT, Nat.reduceEqDiff, Nat.reduceAdd, Nat.reduceSub, Nat.reduceMul, Nat.reduceLeDiff]
          exact any_end (by kernel_rfl) ⟨made, u1, wd, dp, hG, hW, hD, hN, by rw [tail], rfl, trivial⟩
        · simp (maxSteps := 1000000) only [List.getElem_toArray, List.getElem_cons_zero, List.getElem_cons_succ, VL, VM, ↓Gd_none, ↓Gd_t, ↓Gd_f, reduceIte, reduceCtorEq, Int.reduceLE, Int.reduceLT, Int.reduceToNat, Int.reduceNeg, Nat.reduceLT, Nat.reduceEqDiff, Nat.reduceAdd, Nat.reduceSub, Nat.reduceMul, Nat.reduceLeDiff]
          refine fn_call (f := 16) (fn := Try.f16) (by kernel_rfl) (by rfl) ?_
          refine (hallOf_v hd (dieU xs) M.lg 3 2 2 (by omega) (by omega) (by omega)).mono ?_
          rintro _ _ ⟨made, u1, wd, dp, rfl, rfl, hG, hW, hD, hN⟩
          simp (maxSteps := 1000000) only [List.getElem_toArray, List.getElem_cons_zero, List.getElem_cons_succ, VL, VM, ↓Gd_none, ↓Gd_t, ↓Gd_f, reduceIte, reduceCtorEq, Int.reduceLE, Int.reduceLT, Int.reduceToNat, Int.reduceNeg, Nat.reduceLT, Nat.reduceEqDiff, Nat.reduceAdd, Nat.reduceSub, Nat.reduceMul, Nat.reduceLeDiff]
          refine any_one 0 (by kernel_rfl) _ rfl ?_
          simp (maxSteps := 1000000) only [List.getElem_toArray, List.getElem_cons_zero, List.getElem_cons_succ, VL, VM, ↓Gd_none, ↓Gd_t, ↓Gd_f, reduceIte, reduceCtorEq, Int.reduceLE, Int.reduceLT, Int.reduceToNat, Int.reduceNeg, Nat.reduceLT, Nat.reduceEqDiff, Nat.reduceAdd, Nat.reduceSub, Nat.reduceMul, Nat.reduceLeDiff, hh0]
          refine any_one 4 (by kernel_rfl) _ rfl ?_
          simp (maxSteps := 1000000) only [List.getElem_toArray, List.getElem_cons_zero, List.getElem_cons_succ, VL, VM, ↓Gd_none, ↓Gd_t, ↓Gd_f, reduceIte, reduceCtorEq, Int.reduceLE, Int.reduceLT, Int.reduceToNat, Int.reduceNeg, Nat.reduceLT, Nat.reduceEqDiff, Nat.reduceAdd, Nat.reduceSub, Nat.reduceMul, Nat.reduceLeDiff]
          refine any_one 5 (by kernel_rfl) _ rfl ?_
          simp (maxSteps := 1000000) only [List.getElem_toArray, List.getElem_cons_zero, List.getElem_cons_succ, VL, VM, ↓Gd_none, ↓Gd_t, ↓Gd_f, reduceIte, reduceCtorEq, Int.reduceLE, Int.reduceLT, Int.reduceToNat, Int.reduceNeg, Nat.reduceLT, Nat.reduceEqDiff, Nat.reduceAdd, Nat.reduceSub, Nat.reduceMul, Nat.reduceLeDiff]
          exact any_end (by kernel_rfl) ⟨made, u1, wd, dp, hG, hW, hD, hN, by rw [tail], rfl, trivial⟩
--]
  rintro ex e' M' D' ⟨rfl, rfl, made, u1, wd, dp, hG, hW, hD, hN, rfl, hS⟩
  simp only [thenQ]
  refine WCode.weak (e' := [(6, .sf 8 [hallPP h, hallPP made])]) ?_ hS.ok
  have hol : (openL made).length ≤ 6 := by
    have h1 : (openL made).length ≤ (placesL made).length := List.length_filter_le _ _
    have h2 : (placesL made).length = dp * wd := by
      unfold placesL
      rw [rowsOf_len, hG.w, hG.d]; rfl
    have h3 : dp * wd ≤ 2 * 3 := Nat.mul_le_mul (by omega) (by omega)
    omega
  have hb1 : (layL made (placesL made) []).length ≤ 1000000 := lay_bound (n := 6) (k := 2) hol (by omega) (by decide)
  obtain ⟨hs, hhs⟩ : ∃ hs, hs = [h, made] := ⟨_, rfl⟩
  have hs2 : hs.length = 2 := by rw [hhs]; rfl
  have hFs : ∀ x ∈ hs, Fin x ∧ (hallErr x = 0 → (openL x).length ≤ 8 → (layL x (placesL x) []).length ≤ 1000000) := by
    rw [hhs]
    intro x hx
    simp only [List.mem_cons, List.not_mem_nil, or_false] at hx
    rcases hx with rfl | rfl
    · exact ⟨F0, hb0⟩
    · exact ⟨hG.fin, fun _ _ => hb1⟩
  ((repeat refine W_seq ?_); refine W_region0 T_ok ?_)
  simp (maxSteps := 1000000) only [VL, VM, ↓Gd_none, ↓Gd_t, ↓Gd_f, reduceIte, reduceCtorEq, Int.reduceLE, Int.reduceLT, Int.reduceToNat, Int.reduceNeg, Nat.reduceLT, Nat.reduceEqDiff, Nat.reduceAdd, Nat.reduceSub, Nat.reduceMul, Nat.reduceLeDiff]
  ((repeat refine W_seq ?_); refine W_block ?_; (repeat refine W_seq ?_)); refine W_loopS (fun s : CpSt => [(6, .sf 8 (hs.map hallPP)), (7, vi s.i)]) (fun s => ⟨M.H ++ (VObj.obj (hallC h) :: VObj.obj [uv u1] :: s.junk), M.lg⟩) (fun s => 2 - s.i) (fun s => s.i ≤ 2) ⟨0, []⟩ (Nat.zero_le _) ⟨by rw [hhs]; rfl, rfl, trivial⟩ rfl ?_
  rintro ⟨i, junk⟩ hi
  simp only at hi
  have k1 : -9223372036854775808 ≤ (i : Int) + 1 ∧ (i : Int) + 1 < 9223372036854775808 := by omega
  ((repeat refine W_seq ?_); refine W_region0 T_ok ?_)
  rcases Nat.lt_or_ge i 2 with hlt | hge
  rotate_left
  · have k2 : ((i : Int) < ((2 : Nat) : Int)) = False := eq_false (by omega)
    simp (maxSteps := 1000000) only [VL, VM, ↓Gd_none, ↓Gd_t, ↓Gd_f, reduceIte, reduceCtorEq, Int.reduceLE, Int.reduceLT, Int.reduceToNat, Int.reduceNeg, Nat.reduceLT, Nat.reduceEqDiff, Nat.reduceAdd, Nat.reduceSub, Nat.reduceMul, Nat.reduceLeDiff, List.length_map, hs2, k2]
    ((repeat refine W_seq ?_); refine W_cond (b := false) (by first | rfl | simp only [ev, get_cons, Nat.reduceEqDiff, if_true, if_false, reduceIte]) (fun h => by cases h) (fun _ => ?_))
    ((repeat refine W_seq ?_); refine W_exit ?_)
    simp (maxSteps := 1000000) only [VL, VM, ↓Gd_none, ↓Gd_t, ↓Gd_f, reduceIte, reduceCtorEq, Int.reduceLE, Int.reduceLT, Int.reduceToNat, Int.reduceNeg, Nat.reduceLT, Nat.reduceEqDiff, Nat.reduceAdd, Nat.reduceSub, Nat.reduceMul, Nat.reduceLeDiff]
    ((repeat refine W_seq ?_); refine W_region0 T_ok ?_)
    simp (maxSteps := 1000000) only [VL, VM, ↓Gd_none, ↓Gd_t, ↓Gd_f, reduceIte, reduceCtorEq, Int.reduceLE, Int.reduceLT, Int.reduceToNat, Int.reduceNeg, Nat.reduceLT, Nat.reduceEqDiff, Nat.reduceAdd, Nat.reduceSub, Nat.reduceMul, Nat.reduceLeDiff]
    apply call_eq (f := 15) (fn := Try.f15) (by kernel_rfl) (by rfl)
    · exact awake _
    simp (maxSteps := 1000000) only [VL, VM, ↓Gd_none, ↓Gd_t, ↓Gd_f, reduceIte, reduceCtorEq, Int.reduceLE, Int.reduceLT, Int.reduceToNat, Int.reduceNeg, Nat.reduceLT, Nat.reduceEqDiff, Nat.reduceAdd, Nat.reduceSub, Nat.reduceMul, Nat.reduceLeDiff]
    (repeat refine W_seq ?_)
    refine W_ret ?_
    try simp only [thenQ, blockQ]
    refine own_ret1 rfl ?_ (by rfl)
    simp only [get_cons, frz, vtup, Nat.reduceEqDiff, if_true, if_false, reduceIte]
  have k2 : ((i : Int) < ((2 : Nat) : Int)) = True := eq_true (by omega)
  have hx : hs[i]? = some (hs[i]'(by omega)) := List.getElem?_eq_getElem (by omega)
  obtain ⟨hF, hB⟩ := hFs _ (List.getElem_mem (l := hs) (n := i) (by omega))
  generalize hs[i]'(by omega) = hh at hx hF hB
  have hx' := map_at (f := hallPP) hx
  clear hx hFs
  simp (maxSteps := 1000000) only [VL, VM, ↓Gd_none, ↓Gd_t, ↓Gd_f, reduceIte, reduceCtorEq, Int.reduceLE, Int.reduceLT, Int.reduceToNat, Int.reduceNeg, Nat.reduceLT, Nat.reduceEqDiff, Nat.reduceAdd, Nat.reduceSub, Nat.reduceMul, Nat.reduceLeDiff, List.length_map, hs2, k2]
  ((repeat refine W_seq ?_); refine W_cond (b := true) (by first | rfl | simp only [ev, get_cons, Nat.reduceEqDiff, if_true, if_false, reduceIte]) (fun _ => ?_) (fun h => by cases h))
  ((repeat refine W_seq ?_); refine W_skip ?_)
  simp (maxSteps := 1000000) only [VL, VM, ↓Gd_none, ↓Gd_t, ↓Gd_f, reduceIte, reduceCtorEq, Int.reduceLE, Int.reduceLT, Int.reduceToNat, Int.reduceNeg, Nat.reduceLT, Nat.reduceEqDiff, Nat.reduceAdd, Nat.reduceSub, Nat.reduceMul, Nat.reduceLeDiff]
  ((repeat refine W_seq ?_); refine W_block ?_)
  ((repeat refine W_seq ?_); refine W_region0 T_ok ?_)
  simp (maxSteps := 1000000) only [VL, VM, ↓Gd_none, ↓Gd_t, ↓Gd_f, reduceIte, reduceCtorEq, Int.reduceLE, Int.reduceLT, Int.reduceToNat, Int.reduceNeg, Nat.reduceLT, Nat.reduceEqDiff, Nat.reduceAdd, Nat.reduceSub, Nat.reduceMul, Nat.reduceLeDiff, hx']
  apply call_eq (f := 18) (fn := Try.f18) (by kernel_rfl) (by rfl)
  · exact copyHall_v hh _ hF
  simp (maxSteps := 1000000) only [VL, VM, ↓Gd_none, ↓Gd_t, ↓Gd_f, reduceIte, reduceCtorEq, Int.reduceLE, Int.reduceLT, Int.reduceToNat, Int.reduceNeg, Nat.reduceLT, Nat.reduceEqDiff, Nat.reduceAdd, Nat.reduceSub, Nat.reduceMul, Nat.reduceLeDiff]
  ((repeat refine W_seq ?_); refine W_region0 T_ok ?_)
  simp (maxSteps := 1000000) only [VL, VM, ↓Gd_none, ↓Gd_t, ↓Gd_f, reduceIte, reduceCtorEq, Int.reduceLE, Int.reduceLT, Int.reduceToNat, Int.reduceNeg, Nat.reduceLT, Nat.reduceEqDiff, Nat.reduceAdd, Nat.reduceSub, Nat.reduceMul, Nat.reduceLeDiff]
  apply call_eq (f := 19) (fn := Try.f19) (by kernel_rfl) (by rfl)
  · exact best_vm hh _ hF
  simp (maxSteps := 1000000) only [VL, VM, ↓Gd_none, ↓Gd_t, ↓Gd_f, reduceIte, reduceCtorEq, Int.reduceLE, Int.reduceLT, Int.reduceToNat, Int.reduceNeg, Nat.reduceLT, Nat.reduceEqDiff, Nat.reduceAdd, Nat.reduceSub, Nat.reduceMul, Nat.reduceLeDiff]
  ((repeat refine W_seq ?_); refine W_region0 T_ok ?_)
  simp (maxSteps := 1000000) only [VL, VM, ↓Gd_none, ↓Gd_t, ↓Gd_f, reduceIte, reduceCtorEq, Int.reduceLE, Int.reduceLT, Int.reduceToNat, Int.reduceNeg, Nat.reduceLT, Nat.reduceEqDiff, Nat.reduceAdd, Nat.reduceSub, Nat.reduceMul, Nat.reduceLeDiff, hx']
  apply call_eq (f := 20) (fn := Try.f20) (by kernel_rfl) (by rfl)
  · exact refBest_v hh _ hF hB
  simp (maxSteps := 1000000) only [VL, VM, ↓Gd_none, ↓Gd_t, ↓Gd_f, reduceIte, reduceCtorEq, Int.reduceLE, Int.reduceLT, Int.reduceToNat, Int.reduceNeg, Nat.reduceLT, Nat.reduceEqDiff, Nat.reduceAdd, Nat.reduceSub, Nat.reduceMul, Nat.reduceLeDiff]
  (repeat refine W_seq ?_)
  refine W_drawP T_ok [] (by kernel_rfl) (by kernel_rfl) ?_
  generalize hi : mkPlan _ = infs
  cbv at hi
  subst hi
  simp (maxSteps := 1000000) only [VL, VM, ↓Gd_none, ↓Gd_t, ↓Gd_f, reduceIte, reduceCtorEq, Int.reduceLE, Int.reduceLT, Int.reduceToNat, Int.reduceNeg, Nat.reduceLT, Nat.reduceEqDiff, Nat.reduceAdd, Nat.reduceSub, Nat.reduceMul, Nat.reduceLeDiff, hx', eq_self, decide_true, Bool.not_true]
  apply call_d (f := 21) (fn := Try.f21) (by kernel_rfl) (by rfl)
  · exact sameBest_s hh _
  simp (maxSteps := 1000000) only [VL, VM, ↓Gd_none, ↓Gd_t, ↓Gd_f, reduceIte, reduceCtorEq, Int.reduceLE, Int.reduceLT, Int.reduceToNat, Int.reduceNeg, Nat.reduceLT, Nat.reduceEqDiff, Nat.reduceAdd, Nat.reduceSub, Nat.reduceMul, Nat.reduceLeDiff, hx', eq_self, decide_true, Bool.not_true]
  apply call_d (f := 22) (fn := Try.f22) (by kernel_rfl) (by rfl)
  · exact sameHalls_v hh _ hF
  simp (maxSteps := 1000000) only [VL, VM, ↓Gd_none, ↓Gd_t, ↓Gd_f, reduceIte, reduceCtorEq, Int.reduceLE, Int.reduceLT, Int.reduceToNat, Int.reduceNeg, Nat.reduceLT, Nat.reduceEqDiff, Nat.reduceAdd, Nat.reduceSub, Nat.reduceMul, Nat.reduceLeDiff, hx', eq_self, decide_true, Bool.not_true]
  ((repeat refine W_seq ?_); refine W_cond (b := false) (by first | rfl | simp only [ev, get_cons, Nat.reduceEqDiff, if_true, if_false, reduceIte]) (fun h => by cases h) (fun _ => ?_))
  ((repeat refine W_seq ?_); refine W_skip ?_)
  simp (maxSteps := 1000000) only [VL, VM, ↓Gd_none, ↓Gd_t, ↓Gd_f, reduceIte, reduceCtorEq, Int.reduceLE, Int.reduceLT, Int.reduceToNat, Int.reduceNeg, Nat.reduceLT, Nat.reduceEqDiff, Nat.reduceAdd, Nat.reduceSub, Nat.reduceMul, Nat.reduceLeDiff]
  ((repeat refine W_seq ?_); refine W_region0 T_ok ?_)
  simp (maxSteps := 1000000) only [VL, VM, ↓Gd_none, ↓Gd_t, ↓Gd_f, reduceIte, reduceCtorEq, Int.reduceLE, Int.reduceLT, Int.reduceToNat, Int.reduceNeg, Nat.reduceLT, Nat.reduceEqDiff, Nat.reduceAdd, Nat.reduceSub, Nat.reduceMul, Nat.reduceLeDiff, k1]
  refine LoopK.mk ⟨i + 1, junk ++ [VObj.obj (hallC hh)]⟩ (by simp only; omega) (by simp only; omega) ⟨rfl, rfl, trivial⟩ rfl
end Go.Proofs.Ytijcmgfblpokhaa.Vm

/- VaultChosen: for every hall and list of numbers the law answers true, and the arguments read afterwards as before. (Vm) -/
namespace Go.Proofs.Ytijcmgfblpokhaa.Vm
open Go Go.Proofs Go.ChangeShapes Go.WideShapes Go.ChangeAt Go.RowKit
set_option maxRecDepth 100000 in
theorem chosen_lifted (os : Os) (started : os.Started) (H : Type) (enc : TypeId × Value → H) :
    ReturnsInHanded {} Try.checked os 3 .any (Rows.vaultChosenSpec.pre6 enc Try.prog Try.f3 Rows.vaultChosenRow.domain false) (Rows.vaultChosenSpec.post enc Try.prog Try.f3 false true false false) := by
  refine returnsInHanded_of_change (C := Try.checked) law_own started (by kernel_rfl) Try.func3
    (ChangeSpec.witness6 (enc := enc) (C := Try.checked) false ⟨#[], #[.agg #[.int .i64 0, .int .i64 0, .slice none 0 0, .slice none 0 0, .int .i64 0, .int .i64 0, .slice none 0 0, .slice none 0 0], .slice none 0 0], []⟩ 8 (by kernel_rfl) (by kernel_rfl) (by kernel_rfl) (by kernel_rfl)) ?_
  intro W base args ds gs before hval hW hcnd _
  exact hall2_contract rfl (fun d1 d2 => ⟨rfl, rfl, rfl⟩) rfl rfl (fun h xs hl hk hs => chosen_law_v awake_v h xs ⟨[], []⟩ hl hk hs) hval hW
theorem chosen_holds : Rows.VaultChosenSaid :=
  OpenClaim.holds_of_wide 3 Try.f3 rfl rfl rfl rfl rfl rfl rfl ⟨rfl, rfl, rfl, rfl, rfl⟩ rfl rfl rfl rfl rfl (by kernel_rfl) Try.func3 (by kernel_rfl)
    (of_decide_eq_true (by kernel_rfl)) (by unfold Func.isWrapper; first | (rw [if_pos (by decide +kernel)]; kernel_rfl) | (rw [if_neg (by decide +kernel)]; exact ⟨rfl, rfl⟩))
    (fun os started H enc _ => chosen_lifted os started H enc)
end Go.Proofs.Ytijcmgfblpokhaa.Vm
namespace Go.Proofs.Ytijcmgfblpokhaa
theorem vaultChosen_proved : Rows.VaultChosenSaid := Vm.chosen_holds
end Go.Proofs.Ytijcmgfblpokhaa
