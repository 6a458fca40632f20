/- A part of the proofs about the chapter of the vaults; it states no condition of its own. -/
import Derived.Test.YtijcmgfblpokhaaB41
import Derived.Test.YtijcmgfblpokhaaB43
import Derived.Test.YtijcmgfblpokhaaB45
import Derived.Test.YtijcmgfblpokhaaB47
import Derived.Test.YtijcmgfblpokhaaB50
import Derived.Test.YtijcmgfblpokhaaB51
set_option linter.unusedVariables false
set_option linter.unusedSimpArgs false
/- The reference's loads, verdicts and what is allowed, on values. (Vm) -/
namespace Go.Proofs.Ytijcmgfblpokhaa.Vm
open Go Go.Proofs
theorem spCs_one {L : List Sp} : ∀ {k : Nat} {x : Sp}, L[k]? = some x → ((spCs L).drop (k * 2)).take 1 = [vi x.lo] ∧ ((spCs L).drop (k * 2 + 1)).take 1 = [vi x.hi] := by
  intro k x h
  have hk := (List.getElem?_eq_some_iff.1 h).1
  have he : L[k] = x := (List.getElem?_eq_some_iff.1 h).2
  have h0 : (spCs L).drop (k * 2) = vi x.lo :: vi x.hi :: spCs (L.drop (k + 1)) := by
    rw [spCs_drop, List.drop_eq_getElem_cons hk, he]
    rfl
  refine ⟨by rw [h0]; rfl, ?_⟩
  rw [← List.drop_drop, h0]
  rfl
theorem spCs_get {L : List Sp} {k : Nat} {x : Sp} (h : L[k]? = some x) : (spCs L)[k * 2]? = some (vi x.lo) ∧ (spCs L)[k * 2 + 1]? = some (vi x.hi) := by
  obtain ⟨h1, h2⟩ := spCs_one h
  constructor
  · have := congrArg (fun l : List VV => l[0]?) h1
    simpa [List.getElem?_take] using this
  · have := congrArg (fun l : List VV => l[0]?) h2
    simpa [List.getElem?_take] using this
theorem spCs_set2 {l : List Sp} {k : Nat} (x y : Int) (h : k < l.length) : ((spCs l).set (k * 2) (vi x)).set (k * 2 + 1) (vi y) = spCs (l.set k ⟨x, y⟩) := by
  induction l generalizing k with
  | nil => simp at h
  | cons s l ih =>
    cases k with
    | zero => rfl
    | succ k =>
      have := ih (k := k) (by simpa using h)
      rw [show (k + 1) * 2 = k * 2 + 2 by omega]
      simp only [spCs, List.flatMap_cons, List.set_cons_succ] at this ⊢
      show vi s.lo :: vi s.hi :: _ = vi s.lo :: vi s.hi :: _
      rw [← this]
      rfl
theorem rloads_v (h : Ha) (l : List Pu) (M : Mem) (V : VH h) (hg : ∀ o ∈ l, GoodP h o) (hl : l.length ≤ 500) : VC Try.prog 75 [hallV h, pusV l] M (fun r M' => M' = M ∧ r = spsV (loadsOf h l)) := by
  have hS := V.small
  have hbp := bays_pos V
  have b0 : 0 ≤ baysOf h := by omega
  have b1 : ((baysOf h).toNat * 16 ≤ 140737488355328) = True := eq_true (by omega)
  have b2 : ((baysOf h).toNat ≤ 9223372036854775807) = True := eq_true (by omega)
  refine VC_own' T_ok (f := 75) (fn := Try.f75) (by kernel_rfl) rfl Try.ntmps75 (by rfl) (by rfl) ?_
  ((repeat refine W_seq ?_); refine W_region0 T_ok ?_)
  simp (maxSteps := 1000000) only [VL, VM, ↓Gd_none, ↓Gd_t, ↓Gd_f, reduceIte, reduceCtorEq, Int.reduceLE, Int.reduceLT, Int.reduceToNat, Int.reduceNeg, Nat.reduceLT, Nat.reduceEqDiff, Nat.reduceAdd, Nat.reduceSub, Nat.reduceMul, Nat.reduceLeDiff]
  ((repeat refine W_seq ?_); refine W_region0 T_ok ?_)
  simp (maxSteps := 1000000) only [VL, VM, ↓Gd_none, ↓Gd_t, ↓Gd_f, reduceIte, reduceCtorEq, Int.reduceLE, Int.reduceLT, Int.reduceToNat, Int.reduceNeg, Nat.reduceLT, Nat.reduceEqDiff, Nat.reduceAdd, Nat.reduceSub, Nat.reduceMul, Nat.reduceLeDiff]
  apply call_eq (f := 47) (fn := Try.f47) (by kernel_rfl) (by rfl)
  · exact bays_v h _ hS
  simp (maxSteps := 1000000) only [VL, VM, ↓Gd_none, ↓Gd_t, ↓Gd_f, reduceIte, reduceCtorEq, Int.reduceLE, Int.reduceLT, Int.reduceToNat, Int.reduceNeg, Nat.reduceLT, Nat.reduceEqDiff, Nat.reduceAdd, Nat.reduceSub, Nat.reduceMul, Nat.reduceLeDiff, b0, b1, b2, spCs_rep]
  rw [← loadsOf_nil]
  ((repeat refine W_seq ?_); refine W_region0 T_ok ?_)
  simp (maxSteps := 1000000) only [VL, VM, ↓Gd_none, ↓Gd_t, ↓Gd_f, reduceIte, reduceCtorEq, Int.reduceLE, Int.reduceLT, Int.reduceToNat, Int.reduceNeg, Nat.reduceLT, Nat.reduceEqDiff, Nat.reduceAdd, Nat.reduceSub, Nat.reduceMul, Nat.reduceLeDiff]
  ((repeat refine W_seq ?_); refine W_block ?_; (repeat refine W_seq ?_)); refine W_loopS (fun s : ChkSt => [(1, pusV l), (2, .ptr M.H.length 0), (5, .bf (M.H.length + 1) 0 (baysOf h).toNat 2), (6, vi s.i)]) (fun s => ⟨M.H ++ (VObj.obj (hallC h) :: VObj.obj (spCs (loadsOf h (l.take s.i))) :: s.junk), M.lg⟩) (fun s => l.length - s.i) (fun s => s.i ≤ l.length) ⟨0, []⟩ (Nat.zero_le _) ⟨rfl, rfl, rfl, rfl, trivial⟩ rfl ?_
  rintro ⟨i, junk⟩ hi
  simp only at hi
  have k1 : -9223372036854775808 ≤ (i : Int) + 1 ∧ (i : Int) + 1 < 9223372036854775808 := by omega
  ((repeat refine W_seq ?_); refine W_region0 T_ok ?_)
  rcases Nat.lt_or_ge i l.length with hlt | hge
  · have k2 : ((i : Int) < (l.length : Int)) = True := eq_true (by omega)
    have hx : l[i]? = some l[i] := List.getElem?_eq_getElem hlt
    have hx' := map_at (f := puP) hx
    have hmem := List.getElem_mem hlt
    generalize hc : l[i] = p at hx hx' hmem
    have gp := hg p hmem
    obtain ⟨p1, p2, p3, p4, p5, p6⟩ := gp.bounds V
    have kp := map_at (f := kiP) (kAt_some p5 p6)
    have hb := bay_in V gp.1
    have hb0 := hb.1
    have hkl : (bayOf h p.pl).toNat < (baysOf h).toNat := by omega
    have c1 : ((bayOf h p.pl).toNat < (baysOf h).toNat) = True := eq_true hkl
    have c2 : ((bayOf h p.pl).toNat * 2 + 1 ≤ (spCs (loadsOf h (l.take i))).length) = True := eq_true (by rw [spCs_len, loadsOf_len]; omega)
    have c2' : ((bayOf h p.pl).toNat * 2 + 2 ≤ (spCs (loadsOf h (l.take i))).length) = True := eq_true (by rw [spCs_len, loadsOf_len]; omega)
    have c3 := spCs_get (loadsOf_at (l := l.take i) hkl)
    obtain ⟨c3, c3'⟩ := c3
    have hvk := kAt_VK V p5 p6
    have v1 := hvk.lo0
    have v2 := hvk.loHi
    have v3 := hvk.hi1
    have hle := loadAt_le (l := l.take i) V (fun o ho => hg o (List.mem_of_mem_take ho)) (bayOf h p.pl).toNat
    rw [List.length_take, Nat.min_eq_left hi] at hle
    have a1 : -9223372036854775808 ≤ (loadAt h (l.take i) (bayOf h p.pl).toNat).lo + (kAt h p.kind).lo ∧ (loadAt h (l.take i) (bayOf h p.pl).toNat).lo + (kAt h p.kind).lo < 9223372036854775808 := by omega
    have a2 : -9223372036854775808 ≤ (loadAt h (l.take i) (bayOf h p.pl).toNat).hi + (kAt h p.kind).hi ∧ (loadAt h (l.take i) (bayOf h p.pl).toNat).hi + (kAt h p.kind).hi < 9223372036854775808 := by omega
    have hsn := loadsOf_snoc h (l.take i) p (bayOf h p.pl).toNat (by omega)
    rw [show l.take i ++ [p] = l.take (i + 1) by rw [List.take_add_one, hx]; rfl] at hsn
    have c4 := spCs_set2 (l := loadsOf h (l.take i)) (k := (bayOf h p.pl).toNat) ((loadAt h (l.take i) (bayOf h p.pl).toNat).lo + (kAt h p.kind).lo) ((loadAt h (l.take i) (bayOf h p.pl).toNat).hi + (kAt h p.kind).hi) (by rw [loadsOf_len]; exact hkl)
    rw [← hsn] at c4
    obtain ⟨Y, hY⟩ : ∃ Y, Y = (spCs (loadsOf h (l.take i))).set ((bayOf h p.pl).toNat * 2) (vi ((loadAt h (l.take i) (bayOf h p.pl).toNat).lo + (kAt h p.kind).lo)) := ⟨_, rfl⟩
    have hYl : Y.length = (spCs (loadsOf h (l.take i))).length := by rw [hY, List.length_set]
    have hX : (bayOf h p.pl).toNat * 2 + 2 ≤ (spCs (loadsOf h (l.take i))).length := of_eq_true c2'
    have c5 : List.take ((bayOf h p.pl).toNat * 2) (spCs (loadsOf h (l.take i))) ++ vi ((loadAt h (l.take i) (bayOf h p.pl).toNat).lo + (kAt h p.kind).lo) :: List.drop ((bayOf h p.pl).toNat * 2 + 1) (spCs (loadsOf h (l.take i))) = Y := by
      rw [hY, List.set_eq_take_append_cons_drop, if_pos (by omega)]
    have c6 : ((bayOf h p.pl).toNat * 2 + 2 ≤ Y.length) = True := eq_true (by omega)
    have c7 : List.take ((bayOf h p.pl).toNat * 2 + 1) Y ++ vi ((loadAt h (l.take i) (bayOf h p.pl).toNat).hi + (kAt h p.kind).hi) :: List.drop ((bayOf h p.pl).toNat * 2 + 2) Y = spCs (loadsOf h (l.take (i + 1))) := by
      rw [← c4, ← hY, List.set_eq_take_append_cons_drop, if_pos (by omega)]
    simp (maxSteps := 1000000) only [VL, VM, ↓Gd_none, ↓Gd_t, ↓Gd_f, reduceIte, reduceCtorEq, Int.reduceLE, Int.reduceLT, Int.reduceToNat, Int.reduceNeg, Nat.reduceLT, Nat.reduceEqDiff, Nat.reduceAdd, Nat.reduceSub, Nat.reduceMul, Nat.reduceLeDiff, k2]
    ((repeat refine W_seq ?_); refine W_cond (b := true) (by first | rfl | simp only [ev, get_cons, Nat.reduceEqDiff, if_true, if_false, reduceIte]) (fun _ => ?_) (fun h => by cases h))
    ((repeat refine W_seq ?_); refine W_skip ?_)
    simp (maxSteps := 1000000) only [VL, VM, ↓Gd_none, ↓Gd_t, ↓Gd_f, reduceIte, reduceCtorEq, Int.reduceLE, Int.reduceLT, Int.reduceToNat, Int.reduceNeg, Nat.reduceLT, Nat.reduceEqDiff, Nat.reduceAdd, Nat.reduceSub, Nat.reduceMul, Nat.reduceLeDiff]
    ((repeat refine W_seq ?_); refine W_block ?_)
    (repeat refine W_seq ?_)
    refine W_drawP T_ok [VObj.obj [vi 0, vi 0, vb false, .sf 0 [], vi 0, vi 0]] (by kernel_rfl) (by kernel_rfl) ?_
    generalize hi : mkPlan _ = infs
    cbv at hi
    subst hi
    simp (maxSteps := 1000000) only [VL, VM, ↓Gd_none, ↓Gd_t, ↓Gd_f, reduceIte, reduceCtorEq, Int.reduceLE, Int.reduceLT, Int.reduceToNat, Int.reduceNeg, Nat.reduceLT, Nat.reduceEqDiff, Nat.reduceAdd, Nat.reduceSub, Nat.reduceMul, Nat.reduceLeDiff, hx']
    apply call_d (f := 73) (fn := Try.f73) (by kernel_rfl) (by rfl)
    · exact bayOf_v h p.pl _ hS p1 (by omega) p3 (by omega)
    simp (maxSteps := 1000000) only [VL, VM, ↓Gd_none, ↓Gd_t, ↓Gd_f, reduceIte, reduceCtorEq, Int.reduceLE, Int.reduceLT, Int.reduceToNat, Int.reduceNeg, Nat.reduceLT, Nat.reduceEqDiff, Nat.reduceAdd, Nat.reduceSub, Nat.reduceMul, Nat.reduceLeDiff, hx', hb0, c1, c2, c2', p5, kp]
    (repeat refine W_seq ?_)
    refine W_drawP T_ok [] (by kernel_rfl) (by kernel_rfl) ?_
    generalize hi : mkPlan _ = infs
    cbv at hi
    subst hi
    simp (maxSteps := 1000000) only [VL, VM, ↓Gd_none, ↓Gd_t, ↓Gd_f, reduceIte, reduceCtorEq, Int.reduceLE, Int.reduceLT, Int.reduceToNat, Int.reduceNeg, Nat.reduceLT, Nat.reduceEqDiff, Nat.reduceAdd, Nat.reduceSub, Nat.reduceMul, Nat.reduceLeDiff, c3, c3', c2, c2', a1, a2, c5, c6, c7]
    ((repeat refine W_seq ?_); refine W_region0 T_ok ?_)
    simp (maxSteps := 1000000) only [VL, VM, ↓Gd_none, ↓Gd_t, ↓Gd_f, reduceIte, reduceCtorEq, Int.reduceLE, Int.reduceLT, Int.reduceToNat, Int.reduceNeg, Nat.reduceLT, Nat.reduceEqDiff, Nat.reduceAdd, Nat.reduceSub, Nat.reduceMul, Nat.reduceLeDiff, k1]
    refine LoopK.mk ⟨i + 1, _⟩ (by simp only; omega) (by simp only; omega) ⟨rfl, rfl, rfl, rfl, trivial⟩ rfl
  have k2 : ((i : Int) < (l.length : Int)) = False := eq_false (by omega)
  obtain rfl : i = l.length := by omega
  simp (maxSteps := 1000000) only [VL, VM, ↓Gd_none, ↓Gd_t, ↓Gd_f, reduceIte, reduceCtorEq, Int.reduceLE, Int.reduceLT, Int.reduceToNat, Int.reduceNeg, Nat.reduceLT, Nat.reduceEqDiff, Nat.reduceAdd, Nat.reduceSub, Nat.reduceMul, Nat.reduceLeDiff, k2]
  ((repeat refine W_seq ?_); refine W_cond (b := false) (by first | rfl | simp only [ev, get_cons, Nat.reduceEqDiff, if_true, if_false, reduceIte]) (fun h => by cases h) (fun _ => ?_))
  ((repeat refine W_seq ?_); refine W_exit ?_)
  simp (maxSteps := 1000000) only [VL, VM, ↓Gd_none, ↓Gd_t, ↓Gd_f, reduceIte, reduceCtorEq, Int.reduceLE, Int.reduceLT, Int.reduceToNat, Int.reduceNeg, Nat.reduceLT, Nat.reduceEqDiff, Nat.reduceAdd, Nat.reduceSub, Nat.reduceMul, Nat.reduceLeDiff]
  ((repeat refine W_seq ?_); refine W_region0 T_ok ?_)
  simp (maxSteps := 1000000) only [VL, VM, ↓Gd_none, ↓Gd_t, ↓Gd_f, reduceIte, reduceCtorEq, Int.reduceLE, Int.reduceLT, Int.reduceToNat, Int.reduceNeg, Nat.reduceLT, Nat.reduceEqDiff, Nat.reduceAdd, Nat.reduceSub, Nat.reduceMul, Nat.reduceLeDiff]
  (repeat refine W_seq ?_)
  refine W_ret ?_
  try simp only [thenQ, blockQ]
  refine own_ret1 rfl ?_ (by rfl)
  simp only [get_cons, frz, vtup, Nat.reduceEqDiff, if_true, if_false, reduceIte]
  rw [List.take_length, ← loadsOf_len h l]
  exact frz_spans (by omega) (by rw [hget]; rfl)
set_option maxRecDepth 100000 in
theorem rverdict_v (h : Ha) (l : List Pu) (M : Mem) (V : VH h) (hg : ∀ o ∈ l, GoodP h o) (hl : l.length ≤ 500) : VC Try.prog 76 [hallV h, pusV l] M (fun r M' => M' = M ∧ r = vi (verdictOf h l)) := by
  have hbl := V.bears
  have hll : (loadsOf h l).length = h.bears.length := by rw [loadsOf_len]; omega
  have hbp := bays_pos V
  refine VC_own' T_ok (f := 76) (fn := Try.f76) (by kernel_rfl) rfl Try.ntmps76 (by rfl) (by rfl) ?_
  ((repeat refine W_seq ?_); refine W_region0 T_ok ?_)
  simp (maxSteps := 1000000) only [VL, VM, ↓Gd_none, ↓Gd_t, ↓Gd_f, reduceIte, reduceCtorEq, Int.reduceLE, Int.reduceLT, Int.reduceToNat, Int.reduceNeg, Nat.reduceLT, Nat.reduceEqDiff, Nat.reduceAdd, Nat.reduceSub, Nat.reduceMul, Nat.reduceLeDiff]
  ((repeat refine W_seq ?_); refine W_region0 T_ok ?_)
  simp (maxSteps := 1000000) only [VL, VM, ↓Gd_none, ↓Gd_t, ↓Gd_f, reduceIte, reduceCtorEq, Int.reduceLE, Int.reduceLT, Int.reduceToNat, Int.reduceNeg, Nat.reduceLT, Nat.reduceEqDiff, Nat.reduceAdd, Nat.reduceSub, Nat.reduceMul, Nat.reduceLeDiff]
  ((repeat refine W_seq ?_); refine W_region0 T_ok ?_)
  simp (maxSteps := 1000000) only [VL, VM, ↓Gd_none, ↓Gd_t, ↓Gd_f, reduceIte, reduceCtorEq, Int.reduceLE, Int.reduceLT, Int.reduceToNat, Int.reduceNeg, Nat.reduceLT, Nat.reduceEqDiff, Nat.reduceAdd, Nat.reduceSub, Nat.reduceMul, Nat.reduceLeDiff]
  apply call_eq (f := 75) (fn := Try.f75) (by kernel_rfl) (by rfl)
  · exact rloads_v h l _ V hg hl
  simp (maxSteps := 1000000) only [VL, VM, ↓Gd_none, ↓Gd_t, ↓Gd_f, reduceIte, reduceCtorEq, Int.reduceLE, Int.reduceLT, Int.reduceToNat, Int.reduceNeg, Nat.reduceLT, Nat.reduceEqDiff, Nat.reduceAdd, Nat.reduceSub, Nat.reduceMul, Nat.reduceLeDiff]
  ((repeat refine W_seq ?_); refine W_region0 T_ok ?_)
  simp (maxSteps := 1000000) only [VL, VM, ↓Gd_none, ↓Gd_t, ↓Gd_f, reduceIte, reduceCtorEq, Int.reduceLE, Int.reduceLT, Int.reduceToNat, Int.reduceNeg, Nat.reduceLT, Nat.reduceEqDiff, Nat.reduceAdd, Nat.reduceSub, Nat.reduceMul, Nat.reduceLeDiff]
  ((repeat refine W_seq ?_); refine W_block ?_; (repeat refine W_seq ?_)); refine W_loopS (fun i : Nat => [(2, .ptr M.H.length 0), (5, vb (fitsHi h l i)), (6, vb (fitsLo h l i)), (7, spsV (loadsOf h l)), (8, vi i)]) (fun _ => ⟨M.H ++ [VObj.obj (hallC h)], M.lg⟩) (fun i => h.bears.length - i) (fun i => i ≤ h.bears.length) 0 (Nat.zero_le _) ⟨rfl, rfl, rfl, rfl, rfl, trivial⟩ rfl ?_
  rintro i hi
  have k1 : -9223372036854775808 ≤ (i : Int) + 1 ∧ (i : Int) + 1 < 9223372036854775808 := by omega
  ((repeat refine W_seq ?_); refine W_region0 T_ok ?_)
  rcases Nat.lt_or_ge i h.bears.length with hlt | hge
  · have k2 : ((i : Int) < (h.bears.length : Int)) = True := eq_true (by omega)
    have hx : h.bears[i]? = some h.bears[i] := List.getElem?_eq_getElem hlt
    have hx' := map_at (f := intP) hx
    have hy' := map_at (f := spP) (loadsOf_at (h := h) (l := l) (k := i) (by omega))
    have hgd : h.bears.getD i 0 = h.bears[i] := by simp [hlt]
    generalize hc : h.bears[i] = b at hx hx' hgd
    have f1 := fitsHi_step h l i
    have f2 := fitsLo_step h l i
    rw [hgd] at f1 f2
    simp (maxSteps := 1000000) only [VL, VM, ↓Gd_none, ↓Gd_t, ↓Gd_f, reduceIte, reduceCtorEq, Int.reduceLE, Int.reduceLT, Int.reduceToNat, Int.reduceNeg, Nat.reduceLT, Nat.reduceEqDiff, Nat.reduceAdd, Nat.reduceSub, Nat.reduceMul, Nat.reduceLeDiff, hll, k2]
    ((repeat refine W_seq ?_); refine W_cond (b := true) (by first | rfl | simp only [ev, get_cons, Nat.reduceEqDiff, if_true, if_false, reduceIte]) (fun _ => ?_) (fun h => by cases h))
    ((repeat refine W_seq ?_); refine W_skip ?_)
    simp (maxSteps := 1000000) only [VL, VM, ↓Gd_none, ↓Gd_t, ↓Gd_f, reduceIte, reduceCtorEq, Int.reduceLE, Int.reduceLT, Int.reduceToNat, Int.reduceNeg, Nat.reduceLT, Nat.reduceEqDiff, Nat.reduceAdd, Nat.reduceSub, Nat.reduceMul, Nat.reduceLeDiff]
    ((repeat refine W_seq ?_); refine W_block ?_)
    (repeat refine W_seq ?_)
    refine W_drawP T_ok [] (by kernel_rfl) (by kernel_rfl) ?_
    generalize hi : mkPlan _ = infs
    cbv at hi
    subst hi
    cases hq1 : fitsHi h l i
    all_goals cases hq2 : fitsLo h l i
    all_goals rw [hq1] at f1
    all_goals rw [hq2] at f2
    all_goals
      simp (maxSteps := 1000000) only [VL, VM, ↓Gd_none, ↓Gd_t, ↓Gd_f, reduceIte, reduceCtorEq, Int.reduceLE, Int.reduceLT, Int.reduceToNat, Int.reduceNeg, Nat.reduceLT, Nat.reduceEqDiff, Nat.reduceAdd, Nat.reduceSub, Nat.reduceMul, Nat.reduceLeDiff, hx', hy']
      ((repeat refine W_seq ?_); refine W_region0 T_ok ?_)
      simp (maxSteps := 1000000) only [VL, VM, ↓Gd_none, ↓Gd_t, ↓Gd_f, reduceIte, reduceCtorEq, Int.reduceLE, Int.reduceLT, Int.reduceToNat, Int.reduceNeg, Nat.reduceLT, Nat.reduceEqDiff, Nat.reduceAdd, Nat.reduceSub, Nat.reduceMul, Nat.reduceLeDiff, k1]
      refine LoopK.mk (i + 1) (by omega) (by omega) ⟨rfl, ?_, ?_, rfl, rfl, trivial⟩ rfl
      · rw [f1]; simp [get_cons]
      · rw [f2]; simp [get_cons]
  have k2 : ((i : Int) < (h.bears.length : Int)) = False := eq_false (by omega)
  obtain rfl : i = h.bears.length := by omega
  simp (maxSteps := 1000000) only [VL, VM, ↓Gd_none, ↓Gd_t, ↓Gd_f, reduceIte, reduceCtorEq, Int.reduceLE, Int.reduceLT, Int.reduceToNat, Int.reduceNeg, Nat.reduceLT, Nat.reduceEqDiff, Nat.reduceAdd, Nat.reduceSub, Nat.reduceMul, Nat.reduceLeDiff, hll, k2]
  ((repeat refine W_seq ?_); refine W_cond (b := false) (by first | rfl | simp only [ev, get_cons, Nat.reduceEqDiff, if_true, if_false, reduceIte]) (fun h => by cases h) (fun _ => ?_))
  ((repeat refine W_seq ?_); refine W_exit ?_)
  simp (maxSteps := 1000000) only [VL, VM, ↓Gd_none, ↓Gd_t, ↓Gd_f, reduceIte, reduceCtorEq, Int.reduceLE, Int.reduceLT, Int.reduceToNat, Int.reduceNeg, Nat.reduceLT, Nat.reduceEqDiff, Nat.reduceAdd, Nat.reduceSub, Nat.reduceMul, Nat.reduceLeDiff]
  ((repeat refine W_seq ?_); refine W_block ?_)
  have hvd : verdictOf h l = if fitsHi h l h.bears.length then 1 else if fitsLo h l h.bears.length then 3 else 2 := rfl
  cases hq1 : fitsHi h l h.bears.length
  · ((repeat refine W_seq ?_); refine W_region0 T_ok ?_)
    simp (maxSteps := 1000000) only [VL, VM, ↓Gd_none, ↓Gd_t, ↓Gd_f, reduceIte, reduceCtorEq, Int.reduceLE, Int.reduceLT, Int.reduceToNat, Int.reduceNeg, Nat.reduceLT, Nat.reduceEqDiff, Nat.reduceAdd, Nat.reduceSub, Nat.reduceMul, Nat.reduceLeDiff]
    ((repeat refine W_seq ?_); refine W_cond (b := false) (by first | rfl | simp only [ev, get_cons, Nat.reduceEqDiff, if_true, if_false, reduceIte]) (fun h => by cases h) (fun _ => ?_))
    cases hq2 : fitsLo h l h.bears.length
    · ((repeat refine W_seq ?_); refine W_region0 T_ok ?_)
      simp (maxSteps := 1000000) only [VL, VM, ↓Gd_none, ↓Gd_t, ↓Gd_f, reduceIte, reduceCtorEq, Int.reduceLE, Int.reduceLT, Int.reduceToNat, Int.reduceNeg, Nat.reduceLT, Nat.reduceEqDiff, Nat.reduceAdd, Nat.reduceSub, Nat.reduceMul, Nat.reduceLeDiff]
      ((repeat refine W_seq ?_); refine W_cond (b := false) (by first | rfl | simp only [ev, get_cons, Nat.reduceEqDiff, if_true, if_false, reduceIte]) (fun h => by cases h) (fun _ => ?_))
      ((repeat refine W_seq ?_); refine W_skip ?_)
      simp (maxSteps := 1000000) only [VL, VM, ↓Gd_none, ↓Gd_t, ↓Gd_f, reduceIte, reduceCtorEq, Int.reduceLE, Int.reduceLT, Int.reduceToNat, Int.reduceNeg, Nat.reduceLT, Nat.reduceEqDiff, Nat.reduceAdd, Nat.reduceSub, Nat.reduceMul, Nat.reduceLeDiff]
      ((repeat refine W_seq ?_); refine W_region0 T_ok ?_)
      simp (maxSteps := 1000000) only [VL, VM, ↓Gd_none, ↓Gd_t, ↓Gd_f, reduceIte, reduceCtorEq, Int.reduceLE, Int.reduceLT, Int.reduceToNat, Int.reduceNeg, Nat.reduceLT, Nat.reduceEqDiff, Nat.reduceAdd, Nat.reduceSub, Nat.reduceMul, Nat.reduceLeDiff]
      (repeat refine W_seq ?_)
      refine W_ret ?_
      try simp only [thenQ, blockQ]
      refine own_ret1 rfl ?_ (by rfl)
      rw [hvd, hq1, hq2]; rfl
    · ((repeat refine W_seq ?_); refine W_region0 T_ok ?_)
      simp (maxSteps := 1000000) only [VL, VM, ↓Gd_none, ↓Gd_t, ↓Gd_f, reduceIte, reduceCtorEq, Int.reduceLE, Int.reduceLT, Int.reduceToNat, Int.reduceNeg, Nat.reduceLT, Nat.reduceEqDiff, Nat.reduceAdd, Nat.reduceSub, Nat.reduceMul, Nat.reduceLeDiff]
      ((repeat refine W_seq ?_); refine W_cond (b := true) (by first | rfl | simp only [ev, get_cons, Nat.reduceEqDiff, if_true, if_false, reduceIte]) (fun _ => ?_) (fun h => by cases h))
      ((repeat refine W_seq ?_); refine W_region0 T_ok ?_)
      simp (maxSteps := 1000000) only [VL, VM, ↓Gd_none, ↓Gd_t, ↓Gd_f, reduceIte, reduceCtorEq, Int.reduceLE, Int.reduceLT, Int.reduceToNat, Int.reduceNeg, Nat.reduceLT, Nat.reduceEqDiff, Nat.reduceAdd, Nat.reduceSub, Nat.reduceMul, Nat.reduceLeDiff]
      (repeat refine W_seq ?_)
      refine W_ret ?_
      try simp only [thenQ, blockQ]
      refine own_ret1 rfl ?_ (by rfl)
      rw [hvd, hq1, hq2]; rfl
  · ((repeat refine W_seq ?_); refine W_region0 T_ok ?_)
    simp (maxSteps := 1000000) only [VL, VM, ↓Gd_none, ↓Gd_t, ↓Gd_f, reduceIte, reduceCtorEq, Int.reduceLE, Int.reduceLT, Int.reduceToNat, Int.reduceNeg, Nat.reduceLT, Nat.reduceEqDiff, Nat.reduceAdd, Nat.reduceSub, Nat.reduceMul, Nat.reduceLeDiff]
    ((repeat refine W_seq ?_); refine W_cond (b := true) (by first | rfl | simp only [ev, get_cons, Nat.reduceEqDiff, if_true, if_false, reduceIte]) (fun _ => ?_) (fun h => by cases h))
    ((repeat refine W_seq ?_); refine W_region0 T_ok ?_)
    simp (maxSteps := 1000000) only [VL, VM, ↓Gd_none, ↓Gd_t, ↓Gd_f, reduceIte, reduceCtorEq, Int.reduceLE, Int.reduceLT, Int.reduceToNat, Int.reduceNeg, Nat.reduceLT, Nat.reduceEqDiff, Nat.reduceAdd, Nat.reduceSub, Nat.reduceMul, Nat.reduceLeDiff]
    (repeat refine W_seq ?_)
    refine W_ret ?_
    try simp only [thenQ, blockQ]
    refine own_ret1 rfl ?_ (by rfl)
    rw [hvd, hq1]; rfl
theorem allowed_v (h : Ha) (l : List Pu) (M : Mem) (V : VH h) (hl : l.length ≤ 1000000) : VC Try.prog 84 [hallV h, pusV l] M (fun r M' => M' = M ∧ r = vb (allowedB h l)) := by
  refine VC_own' T_ok (f := 84) (fn := Try.f84) (by kernel_rfl) rfl Try.ntmps84 (by rfl) (by rfl) ?_
  ((repeat refine W_seq ?_); refine W_region0 T_ok ?_)
  simp (maxSteps := 1000000) only [VL, VM, ↓Gd_none, ↓Gd_t, ↓Gd_f, reduceIte, reduceCtorEq, Int.reduceLE, Int.reduceLT, Int.reduceToNat, Int.reduceNeg, Nat.reduceLT, Nat.reduceEqDiff, Nat.reduceAdd, Nat.reduceSub, Nat.reduceMul, Nat.reduceLeDiff]
  ((repeat refine W_seq ?_); refine W_region0 T_ok ?_)
  simp (maxSteps := 1000000) only [VL, VM, ↓Gd_none, ↓Gd_t, ↓Gd_f, reduceIte, reduceCtorEq, Int.reduceLE, Int.reduceLT, Int.reduceToNat, Int.reduceNeg, Nat.reduceLT, Nat.reduceEqDiff, Nat.reduceAdd, Nat.reduceSub, Nat.reduceMul, Nat.reduceLeDiff]
  apply call_eq (f := 83) (fn := Try.f83) (by kernel_rfl) (by rfl)
  · exact layout_v h l _ V hl
  by_cases e : layErr h l = 0
  · have hlen := lay_len e
    simp (maxSteps := 1000000) only [VL, VM, ↓Gd_none, ↓Gd_t, ↓Gd_f, reduceIte, reduceCtorEq, Int.reduceLE, Int.reduceLT, Int.reduceToNat, Int.reduceNeg, Nat.reduceLT, Nat.reduceEqDiff, Nat.reduceAdd, Nat.reduceSub, Nat.reduceMul, Nat.reduceLeDiff, e]
    apply call_eq (f := 76) (fn := Try.f76) (by kernel_rfl) (by rfl)
    · exact rverdict_v h l _ V (lay_good e) (by omega)
    simp (maxSteps := 1000000) only [VL, VM, ↓Gd_none, ↓Gd_t, ↓Gd_f, reduceIte, reduceCtorEq, Int.reduceLE, Int.reduceLT, Int.reduceToNat, Int.reduceNeg, Nat.reduceLT, Nat.reduceEqDiff, Nat.reduceAdd, Nat.reduceSub, Nat.reduceMul, Nat.reduceLeDiff]
    (repeat refine W_seq ?_)
    refine W_ret ?_
    try simp only [thenQ, blockQ]
    refine own_ret1 rfl ?_ (by rfl)
    simp [get_cons, frz, allowedB, e]
  · simp (maxSteps := 1000000) only [VL, VM, ↓Gd_none, ↓Gd_t, ↓Gd_f, reduceIte, reduceCtorEq, Int.reduceLE, Int.reduceLT, Int.reduceToNat, Int.reduceNeg, Nat.reduceLT, Nat.reduceEqDiff, Nat.reduceAdd, Nat.reduceSub, Nat.reduceMul, Nat.reduceLeDiff, e]
    (repeat refine W_seq ?_)
    refine W_ret ?_
    try simp only [thenQ, blockQ]
    refine own_ret1 rfl ?_ (by rfl)
    simp [get_cons, frz, allowedB, e]
end Go.Proofs.Ytijcmgfblpokhaa.Vm

/- Halls that are copied, compared, and looked at, on values. (Vm) -/
namespace Go.Proofs.Ytijcmgfblpokhaa.Vm
open Go Go.Proofs
theorem copyInts_v (xs : List Int) (M : Mem) (hl : xs.length ≤ 1000000) : VC Try.prog 62 [intsV xs] M (fun r M' => M' = M ∧ r = intsV xs) := by
  have q1 : (xs.length * 8 ≤ 140737488355328) = True := eq_true (by omega)
  refine VC_own' T_ok (f := 62) (fn := Try.f62) (by kernel_rfl) rfl Try.ntmps62 (by rfl) (by rfl) ?_
  ((repeat refine W_seq ?_); refine W_region0 T_ok ?_)
  simp (maxSteps := 1000000) only [VL, VM, ↓Gd_none, ↓Gd_t, ↓Gd_f, reduceIte, reduceCtorEq, Int.reduceLE, Int.reduceLT, Int.reduceToNat, Int.reduceNeg, Nat.reduceLT, Nat.reduceEqDiff, Nat.reduceAdd, Nat.reduceSub, Nat.reduceMul, Nat.reduceLeDiff]
  ((repeat refine W_seq ?_); refine W_region0 T_ok ?_)
  simp (maxSteps := 1000000) only [VL, VM, ↓Gd_none, ↓Gd_t, ↓Gd_f, reduceIte, reduceCtorEq, Int.reduceLE, Int.reduceLT, Int.reduceToNat, Int.reduceNeg, Nat.reduceLT, Nat.reduceEqDiff, Nat.reduceAdd, Nat.reduceSub, Nat.reduceMul, Nat.reduceLeDiff, q1]
  (repeat refine W_seq ?_)
  refine W_ret ?_
  try simp only [thenQ, blockQ]
  refine own_ret1 rfl ?_ (by rfl)
  simp only [get_cons, frz, vtup, Nat.reduceEqDiff, if_true, if_false, reduceIte]
/-- longer lists than the statements go through -/
def vastB (h : Ha) : Bool := h.kinds.any (fun k => decide (20 < k.away.length)) || decide (40 < h.water.length) || decide (40 < h.shut.length) || decide (40 < h.bears.length) || decide (20 < h.kinds.length)
set_option maxHeartbeats 1000000 in
theorem vast_v (h : Ha) (M : Mem) (hl : h.kinds.length ≤ 9223372036854775807) : VC Try.prog 13 [hallV h] M (fun r M' => M' = M ∧ r = vb (vastB h)) := by
  refine VC_own' T_ok (f := 13) (fn := Try.f13) (by kernel_rfl) rfl Try.ntmps13 (by rfl) (by rfl) ?_
  ((repeat refine W_seq ?_); refine W_region0 T_ok ?_)
  simp (maxSteps := 1000000) only [VL, VM, ↓Gd_none, ↓Gd_t, ↓Gd_f, reduceIte, reduceCtorEq, Int.reduceLE, Int.reduceLT, Int.reduceToNat, Int.reduceNeg, Nat.reduceLT, Nat.reduceEqDiff, Nat.reduceAdd, Nat.reduceSub, Nat.reduceMul, Nat.reduceLeDiff]
  ((repeat refine W_seq ?_); refine W_region0 T_ok ?_)
  simp (maxSteps := 1000000) only [VL, VM, ↓Gd_none, ↓Gd_t, ↓Gd_f, reduceIte, reduceCtorEq, Int.reduceLE, Int.reduceLT, Int.reduceToNat, Int.reduceNeg, Nat.reduceLT, Nat.reduceEqDiff, Nat.reduceAdd, Nat.reduceSub, Nat.reduceMul, Nat.reduceLeDiff]
  ((repeat refine W_seq ?_); refine W_block ?_; (repeat refine W_seq ?_)); refine W_loopS (fun i : Nat => [(1, .ptr M.H.length 0), (3, vi i)]) (fun _ => ⟨M.H ++ [VObj.obj (hallC h)], M.lg⟩) (fun i => h.kinds.length - i) (fun i => i ≤ h.kinds.length ∧ (h.kinds.take i).any (fun k => decide (20 < k.away.length)) = false) 0 ⟨Nat.zero_le _, rfl⟩ ⟨rfl, rfl, trivial⟩ rfl ?_
  rintro i ⟨hi, hn⟩
  ((repeat refine W_seq ?_); refine W_region0 T_ok ?_)
  rcases Nat.lt_or_ge i h.kinds.length with hlt | hge
  · have k1 : -9223372036854775808 ≤ (i : Int) + 1 ∧ (i : Int) + 1 < 9223372036854775808 := by omega
    have k2 : ((i : Int) < (h.kinds.length : Int)) = True := eq_true (by omega)
    have hx : h.kinds[i]? = some h.kinds[i] := List.getElem?_eq_getElem hlt
    have hx' := map_at (f := kiP) hx
    have hmem := List.getElem_mem hlt
    generalize h.kinds[i] = k at hx hx' hmem
    simp (maxSteps := 1000000) only [VL, VM, ↓Gd_none, ↓Gd_t, ↓Gd_f, reduceIte, reduceCtorEq, Int.reduceLE, Int.reduceLT, Int.reduceToNat, Int.reduceNeg, Nat.reduceLT, Nat.reduceEqDiff, Nat.reduceAdd, Nat.reduceSub, Nat.reduceMul, Nat.reduceLeDiff, k2]
    ((repeat refine W_seq ?_); refine W_cond (b := true) (by first | rfl | simp only [ev, get_cons, Nat.reduceEqDiff, if_true, if_false, reduceIte]) (fun _ => ?_) (fun h => by cases h))
    ((repeat refine W_seq ?_); refine W_skip ?_)
    simp (maxSteps := 1000000) only [VL, VM, ↓Gd_none, ↓Gd_t, ↓Gd_f, reduceIte, reduceCtorEq, Int.reduceLE, Int.reduceLT, Int.reduceToNat, Int.reduceNeg, Nat.reduceLT, Nat.reduceEqDiff, Nat.reduceAdd, Nat.reduceSub, Nat.reduceMul, Nat.reduceLeDiff]
    ((repeat refine W_seq ?_); refine W_block ?_)
    by_cases hk : 20 < k.away.length
    · have e1 : ((20 : Int) < (k.away.length : Int)) = True := eq_true (by omega)
      ((repeat refine W_seq ?_); refine W_region0 T_ok ?_)
      simp (maxSteps := 1000000) only [VL, VM, ↓Gd_none, ↓Gd_t, ↓Gd_f, reduceIte, reduceCtorEq, Int.reduceLE, Int.reduceLT, Int.reduceToNat, Int.reduceNeg, Nat.reduceLT, Nat.reduceEqDiff, Nat.reduceAdd, Nat.reduceSub, Nat.reduceMul, Nat.reduceLeDiff, hx', e1]
      ((repeat refine W_seq ?_); refine W_cond (b := true) (by first | rfl | simp only [ev, get_cons, Nat.reduceEqDiff, if_true, if_false, reduceIte]) (fun _ => ?_) (fun h => by cases h))
      ((repeat refine W_seq ?_); refine W_region0 T_ok ?_)
      simp (maxSteps := 1000000) only [VL, VM, ↓Gd_none, ↓Gd_t, ↓Gd_f, reduceIte, reduceCtorEq, Int.reduceLE, Int.reduceLT, Int.reduceToNat, Int.reduceNeg, Nat.reduceLT, Nat.reduceEqDiff, Nat.reduceAdd, Nat.reduceSub, Nat.reduceMul, Nat.reduceLeDiff]
      (repeat refine W_seq ?_)
      refine W_ret ?_
      try simp only [thenQ, blockQ]
      refine own_ret1 rfl ?_ (by rfl)
      simp only [get_cons, frz, vtup, Nat.reduceEqDiff, if_true, if_false, reduceIte]
      have : h.kinds.any (fun k => decide (20 < k.away.length)) = true := List.any_eq_true.2 ⟨k, hmem, by simp [hk]⟩
      rw [vastB, this]; rfl
    · have e1 : ((20 : Int) < (k.away.length : Int)) = False := eq_false (by omega)
      ((repeat refine W_seq ?_); refine W_region0 T_ok ?_)
      simp (maxSteps := 1000000) only [VL, VM, ↓Gd_none, ↓Gd_t, ↓Gd_f, reduceIte, reduceCtorEq, Int.reduceLE, Int.reduceLT, Int.reduceToNat, Int.reduceNeg, Nat.reduceLT, Nat.reduceEqDiff, Nat.reduceAdd, Nat.reduceSub, Nat.reduceMul, Nat.reduceLeDiff, hx', e1]
      ((repeat refine W_seq ?_); refine W_cond (b := false) (by first | rfl | simp only [ev, get_cons, Nat.reduceEqDiff, if_true, if_false, reduceIte]) (fun h => by cases h) (fun _ => ?_))
      ((repeat refine W_seq ?_); refine W_skip ?_)
      simp (maxSteps := 1000000) only [VL, VM, ↓Gd_none, ↓Gd_t, ↓Gd_f, reduceIte, reduceCtorEq, Int.reduceLE, Int.reduceLT, Int.reduceToNat, Int.reduceNeg, Nat.reduceLT, Nat.reduceEqDiff, Nat.reduceAdd, Nat.reduceSub, Nat.reduceMul, Nat.reduceLeDiff]
      ((repeat refine W_seq ?_); refine W_region0 T_ok ?_)
      simp (maxSteps := 1000000) only [VL, VM, ↓Gd_none, ↓Gd_t, ↓Gd_f, reduceIte, reduceCtorEq, Int.reduceLE, Int.reduceLT, Int.reduceToNat, Int.reduceNeg, Nat.reduceLT, Nat.reduceEqDiff, Nat.reduceAdd, Nat.reduceSub, Nat.reduceMul, Nat.reduceLeDiff, k1]
      refine LoopK.mk (i + 1) (by omega) ⟨by omega, ?_⟩ ⟨rfl, rfl, trivial⟩ rfl
      rw [List.take_add_one, hx, List.any_append, hn]
      simp [hk]
  have k2 : ((i : Int) < (h.kinds.length : Int)) = False := eq_false (by omega)
  rw [List.take_of_length_le (by omega)] at hn
  simp (maxSteps := 1000000) only [VL, VM, ↓Gd_none, ↓Gd_t, ↓Gd_f, reduceIte, reduceCtorEq, Int.reduceLE, Int.reduceLT, Int.reduceToNat, Int.reduceNeg, Nat.reduceLT, Nat.reduceEqDiff, Nat.reduceAdd, Nat.reduceSub, Nat.reduceMul, Nat.reduceLeDiff, k2]
  ((repeat refine W_seq ?_); refine W_cond (b := false) (by first | rfl | simp only [ev, get_cons, Nat.reduceEqDiff, if_true, if_false, reduceIte]) (fun h => by cases h) (fun _ => ?_))
  ((repeat refine W_seq ?_); refine W_exit ?_)
  simp (maxSteps := 1000000) only [VL, VM, ↓Gd_none, ↓Gd_t, ↓Gd_f, reduceIte, reduceCtorEq, Int.reduceLE, Int.reduceLT, Int.reduceToNat, Int.reduceNeg, Nat.reduceLT, Nat.reduceEqDiff, Nat.reduceAdd, Nat.reduceSub, Nat.reduceMul, Nat.reduceLeDiff]
  have hvb : vastB h = (decide (40 < h.water.length) || decide (40 < h.shut.length) || decide (40 < h.bears.length) || decide (20 < h.kinds.length)) := by
    rw [vastB, hn, Bool.false_or]
  have g1 : ((40 : Int) < (h.water.length : Int)) = (40 < h.water.length) := by rw [eq_iff_iff]; omega
  have g2 : ((40 : Int) < (h.shut.length : Int)) = (40 < h.shut.length) := by rw [eq_iff_iff]; omega
  have g3 : ((40 : Int) < (h.bears.length : Int)) = (40 < h.bears.length) := by rw [eq_iff_iff]; omega
  have g4 : ((20 : Int) < (h.kinds.length : Int)) = (20 < h.kinds.length) := by rw [eq_iff_iff]; omega
  have fin : ∀ (b : Bool) (e : Env), b = vastB h → get e 2 = vb b → ownQ T 13 Try.f13 M (fun r M' => M' = M ∧ r = vb (vastB h)) .ret e ⟨M.H ++ [VObj.obj (hallC h)], M.lg⟩ [] := fun b e hb he => own_ret1 rfl (by rw [he, hb]; rfl) rfl
  ((repeat refine W_seq ?_); refine W_region0 T_ok ?_)
  by_cases a1 : 40 < h.water.length
  · simp (maxSteps := 1000000) only [VL, VM, ↓Gd_none, ↓Gd_t, ↓Gd_f, reduceIte, reduceCtorEq, Int.reduceLE, Int.reduceLT, Int.reduceToNat, Int.reduceNeg, Nat.reduceLT, Nat.reduceEqDiff, Nat.reduceAdd, Nat.reduceSub, Nat.reduceMul, Nat.reduceLeDiff, g1, a1]
    (repeat refine W_seq ?_)
    exact W_ret (fin true _ (by rw [hvb]; simp [a1]) rfl)
  by_cases a2 : 40 < h.shut.length
  · simp (maxSteps := 1000000) only [VL, VM, ↓Gd_none, ↓Gd_t, ↓Gd_f, reduceIte, reduceCtorEq, Int.reduceLE, Int.reduceLT, Int.reduceToNat, Int.reduceNeg, Nat.reduceLT, Nat.reduceEqDiff, Nat.reduceAdd, Nat.reduceSub, Nat.reduceMul, Nat.reduceLeDiff, g1, a1, g2, a2]
    (repeat refine W_seq ?_)
    exact W_ret (fin true _ (by rw [hvb]; simp [a2]) rfl)
  by_cases a3 : 40 < h.bears.length
  · simp (maxSteps := 1000000) only [VL, VM, ↓Gd_none, ↓Gd_t, ↓Gd_f, reduceIte, reduceCtorEq, Int.reduceLE, Int.reduceLT, Int.reduceToNat, Int.reduceNeg, Nat.reduceLT, Nat.reduceEqDiff, Nat.reduceAdd, Nat.reduceSub, Nat.reduceMul, Nat.reduceLeDiff, g1, a1, g2, a2, g3, a3]
    (repeat refine W_seq ?_)
    exact W_ret (fin true _ (by rw [hvb]; simp [a3]) rfl)
  by_cases a4 : 20 < h.kinds.length
  · simp (maxSteps := 1000000) only [VL, VM, ↓Gd_none, ↓Gd_t, ↓Gd_f, reduceIte, reduceCtorEq, Int.reduceLE, Int.reduceLT, Int.reduceToNat, Int.reduceNeg, Nat.reduceLT, Nat.reduceEqDiff, Nat.reduceAdd, Nat.reduceSub, Nat.reduceMul, Nat.reduceLeDiff, g1, a1, g2, a2, g3, a3, g4, a4]
    (repeat refine W_seq ?_)
    exact W_ret (fin true _ (by rw [hvb]; simp [a4]) rfl)
  · simp (maxSteps := 1000000) only [VL, VM, ↓Gd_none, ↓Gd_t, ↓Gd_f, reduceIte, reduceCtorEq, Int.reduceLE, Int.reduceLT, Int.reduceToNat, Int.reduceNeg, Nat.reduceLT, Nat.reduceEqDiff, Nat.reduceAdd, Nat.reduceSub, Nat.reduceMul, Nat.reduceLeDiff, g1, a1, g2, a2, g3, a3, g4, a4]
    (repeat refine W_seq ?_)
    exact W_ret (fin false _ (by rw [hvb]; simp [a1, a2, a3, a4]) rfl)
end Go.Proofs.Ytijcmgfblpokhaa.Vm

/- Halls that are copied, on values. (Vm) -/
namespace Go.Proofs.Ytijcmgfblpokhaa.Vm
open Go Go.Proofs
structure CpSt where
  i : Nat
  junk : List VObj
theorem addLg_X (id : Nat) (rs : List Nat) (lg : List (Nat × Nat)) : ∃ X, addLg id rs lg = lg ++ X ∧ ∀ e ∈ X, e.1 = id := by
  unfold addLg
  split
  · exact ⟨[], by simp, by simp⟩
  · refine ⟨_, rfl, fun e he => ?_⟩
    obtain ⟨r, _, rfl⟩ := List.mem_map.1 he
    rfl
theorem own_retX {T : Tab} {f : Nat} {fn : Func} {M : Mem} {L : List VObj} {e : Env} {lg : List (Nat × Nat)} {vs : List VV} {r : VV} {Q : VV → Mem → Prop} (hx : ∃ X, lg = M.lg ++ X ∧ ∀ e ∈ X, M.H.length ≤ e.1) (h1 : vresL T e ⟨M.H ++ L, lg⟩ fn.results.toList = some vs) (h2 : frz M.H.length (M.H ++ L) (vtup vs) = r) (h3 : refs r = []) (h4 : Q r ⟨M.H, M.lg⟩) : ownQ T f fn M Q .ret e ⟨M.H ++ L, lg⟩ [] :=
  ⟨.inr rfl, rfl, hx, M.H, L, rfl, rfl, vs, h1, r, h2, by simp [h3], h4⟩
theorem copyHall_v (h : Ha) (M : Mem) (F : Fin h) : VC Try.prog 18 [hallV h] M (fun r M' => M' = M ∧ r = hallV h) := by
  have fw := F.water
  have fs := F.shut
  have fb := F.bears
  have fk := F.kinds
  have q1 : (h.water.length * 16 ≤ 140737488355328) = True := eq_true (by omega)
  have q2 : (h.shut.length * 16 ≤ 140737488355328) = True := eq_true (by omega)
  refine VC_own' T_ok (f := 18) (fn := Try.f18) (by kernel_rfl) rfl Try.ntmps18 (by rfl) (by rfl) ?_
  ((repeat refine W_seq ?_); refine W_region0 T_ok ?_)
  simp (maxSteps := 1000000) only [VL, VM, ↓Gd_none, ↓Gd_t, ↓Gd_f, reduceIte, reduceCtorEq, Int.reduceLE, Int.reduceLT, Int.reduceToNat, Int.reduceNeg, Nat.reduceLT, Nat.reduceEqDiff, Nat.reduceAdd, Nat.reduceSub, Nat.reduceMul, Nat.reduceLeDiff]
  (repeat refine W_seq ?_)
  refine W_drawP T_ok [] (by kernel_rfl) (by kernel_rfl) ?_
  generalize hi : mkPlan _ = infs
  cbv at hi
  subst hi
  simp (maxSteps := 1000000) only [VL, VM, ↓Gd_none, ↓Gd_t, ↓Gd_f, reduceIte, reduceCtorEq, Int.reduceLE, Int.reduceLT, Int.reduceToNat, Int.reduceNeg, Nat.reduceLT, Nat.reduceEqDiff, Nat.reduceAdd, Nat.reduceSub, Nat.reduceMul, Nat.reduceLeDiff, q1, q2]
  apply call_d (f := 62) (fn := Try.f62) (by kernel_rfl) (by rfl)
  · exact copyInts_v h.bears _ fb
  simp (maxSteps := 1000000) only [VL, VM, ↓Gd_none, ↓Gd_t, ↓Gd_f, reduceIte, reduceCtorEq, Int.reduceLE, Int.reduceLT, Int.reduceToNat, Int.reduceNeg, Nat.reduceLT, Nat.reduceEqDiff, Nat.reduceAdd, Nat.reduceSub, Nat.reduceMul, Nat.reduceLeDiff, q1, q2]
  ((repeat refine W_seq ?_); refine W_region0 T_ok ?_)
  simp (maxSteps := 1000000) only [VL, VM, ↓Gd_none, ↓Gd_t, ↓Gd_f, reduceIte, reduceCtorEq, Int.reduceLE, Int.reduceLT, Int.reduceToNat, Int.reduceNeg, Nat.reduceLT, Nat.reduceEqDiff, Nat.reduceAdd, Nat.reduceSub, Nat.reduceMul, Nat.reduceLeDiff]
  ((repeat refine W_seq ?_); refine W_region0 T_ok ?_)
  simp (maxSteps := 1000000) only [VL, VM, ↓Gd_none, ↓Gd_t, ↓Gd_f, reduceIte, reduceCtorEq, Int.reduceLE, Int.reduceLT, Int.reduceToNat, Int.reduceNeg, Nat.reduceLT, Nat.reduceEqDiff, Nat.reduceAdd, Nat.reduceSub, Nat.reduceMul, Nat.reduceLeDiff]
  obtain ⟨lgB, hB⟩ : ∃ lgB, lgB = addLg M.H.length [M.H.length + 3] (addLg M.H.length [M.H.length + 2] M.lg) := ⟨_, rfl⟩
  rw [← hB]
  refine W_ghost (id := M.H.length) (off := 7) (k := 6) (k0 := 0) (hget0 _ _) rfl ?_
  obtain ⟨lgC, hC⟩ : ∃ lgC, lgC = lgB ++ [(M.H.length, M.H.length + 4)] := ⟨_, rfl⟩
  have hCX : ∃ X, lgC = M.lg ++ X ∧ ∀ e ∈ X, M.H.length ≤ e.1 := by
    obtain ⟨X1, h1, g1⟩ := addLg_X M.H.length [M.H.length + 2] M.lg
    obtain ⟨X2, h2, g2⟩ := addLg_X M.H.length [M.H.length + 3] (addLg M.H.length [M.H.length + 2] M.lg)
    refine ⟨X1 ++ (X2 ++ [(M.H.length, M.H.length + 4)]), by rw [hC, hB, h2, h1]; simp, fun e he => ?_⟩
    simp only [List.mem_append, List.mem_singleton] at he
    rcases he with he | he | rfl
    · have := g1 e he; omega
    · have := g2 e he; omega
    · exact Nat.le_refl _
  have hA : addLg M.H.length [M.H.length + 4] lgC = lgC := addLg_has (by rw [hC]; simp)
  simp (maxSteps := 1000000) only [VL, VM, ↓Gd_none, ↓Gd_t, ↓Gd_f, reduceIte, reduceCtorEq, Int.reduceLE, Int.reduceLT, Int.reduceToNat, Int.reduceNeg, Nat.reduceLT, Nat.reduceEqDiff, Nat.reduceAdd, Nat.reduceSub, Nat.reduceMul, Nat.reduceLeDiff]
  rw [← hC]
  clear hC hB
  clear lgB
  ((repeat refine W_seq ?_); refine W_region0 T_ok ?_)
  simp (maxSteps := 1000000) only [VL, VM, ↓Gd_none, ↓Gd_t, ↓Gd_f, reduceIte, reduceCtorEq, Int.reduceLE, Int.reduceLT, Int.reduceToNat, Int.reduceNeg, Nat.reduceLT, Nat.reduceEqDiff, Nat.reduceAdd, Nat.reduceSub, Nat.reduceMul, Nat.reduceLeDiff]
  ((repeat refine W_seq ?_); refine W_block ?_; (repeat refine W_seq ?_)); refine W_loopS (fun s : CpSt => [(1, .ptr M.H.length 0), (2, .ptr (M.H.length + 1) 0), (3, kisV h.kinds), (4, vi s.i)]) (fun s => ⟨M.H ++ (VObj.obj [vi h.wide, vi h.deep, .so (M.H.length + 2) 2 (h.water.map plP), .so (M.H.length + 3) 2 (h.shut.map plP), vi h.bay.x, vi h.bay.y, intsV h.bears, .so (M.H.length + 4) 6 ((h.kinds.take s.i).map kiP)] :: VObj.obj [vi 0, vi 0, .sf 0 [], .sf 0 [], vi 0, vi 0, .sf 0 [], .sf 0 []] :: .clm h.water.length 2 :: .clm h.shut.length 2 :: .clm s.i 6 :: s.junk), lgC⟩) (fun s => h.kinds.length - s.i) (fun s => s.i ≤ h.kinds.length) ⟨0, []⟩ (Nat.zero_le _) ⟨rfl, rfl, rfl, rfl, trivial⟩ rfl ?_
  rintro ⟨i, junk⟩ hi
  simp only at hi
  have k1 : -9223372036854775808 ≤ (i : Int) + 1 ∧ (i : Int) + 1 < 9223372036854775808 := by omega
  ((repeat refine W_seq ?_); refine W_region0 T_ok ?_)
  rcases Nat.lt_or_ge i h.kinds.length with hlt | hge
  · have k2 : ((i : Int) < (h.kinds.length : Int)) = True := eq_true (by omega)
    have hx : h.kinds[i]? = some h.kinds[i] := List.getElem?_eq_getElem hlt
    have hx' := map_at (f := kiP) hx
    have haw := F.aways _ (List.getElem_mem hlt)
    have q3 : ((i + 1) * 64 ≤ 140737488355328) = True := eq_true (by omega)
    have e1 : (h.kinds.take i).length = i := by rw [List.length_take]; omega
    have s1 : h.kinds.take (i + 1) = h.kinds.take i ++ [h.kinds[i]] := by
      rw [List.take_add_one, hx]; rfl
    generalize h.kinds[i] = k at hx hx' haw s1
    generalize h.kinds.take i = ks at e1 s1
    simp (maxSteps := 1000000) only [VL, VM, ↓Gd_none, ↓Gd_t, ↓Gd_f, reduceIte, reduceCtorEq, Int.reduceLE, Int.reduceLT, Int.reduceToNat, Int.reduceNeg, Nat.reduceLT, Nat.reduceEqDiff, Nat.reduceAdd, Nat.reduceSub, Nat.reduceMul, Nat.reduceLeDiff, k2]
    ((repeat refine W_seq ?_); refine W_cond (b := true) (by first | rfl | simp only [ev, get_cons, Nat.reduceEqDiff, if_true, if_false, reduceIte]) (fun _ => ?_) (fun h => by cases h))
    ((repeat refine W_seq ?_); refine W_skip ?_)
    simp (maxSteps := 1000000) only [VL, VM, ↓Gd_none, ↓Gd_t, ↓Gd_f, reduceIte, reduceCtorEq, Int.reduceLE, Int.reduceLT, Int.reduceToNat, Int.reduceNeg, Nat.reduceLT, Nat.reduceEqDiff, Nat.reduceAdd, Nat.reduceSub, Nat.reduceMul, Nat.reduceLeDiff]
    ((repeat refine W_seq ?_); refine W_block ?_)
    ((repeat refine W_seq ?_); refine W_region0 T_ok ?_)
    simp (maxSteps := 1000000) only [VL, VM, ↓Gd_none, ↓Gd_t, ↓Gd_f, reduceIte, reduceCtorEq, Int.reduceLE, Int.reduceLT, Int.reduceToNat, Int.reduceNeg, Nat.reduceLT, Nat.reduceEqDiff, Nat.reduceAdd, Nat.reduceSub, Nat.reduceMul, Nat.reduceLeDiff, hx']
    ((repeat refine W_seq ?_); refine W_region0 T_ok ?_)
    simp (maxSteps := 1000000) only [VL, VM, ↓Gd_none, ↓Gd_t, ↓Gd_f, reduceIte, reduceCtorEq, Int.reduceLE, Int.reduceLT, Int.reduceToNat, Int.reduceNeg, Nat.reduceLT, Nat.reduceEqDiff, Nat.reduceAdd, Nat.reduceSub, Nat.reduceMul, Nat.reduceLeDiff]
    apply call_eq (f := 62) (fn := Try.f62) (by kernel_rfl) (by rfl)
    · exact copyInts_v k.away _ haw
    simp (maxSteps := 1000000) only [VL, VM, ↓Gd_none, ↓Gd_t, ↓Gd_f, reduceIte, reduceCtorEq, Int.reduceLE, Int.reduceLT, Int.reduceToNat, Int.reduceNeg, Nat.reduceLT, Nat.reduceEqDiff, Nat.reduceAdd, Nat.reduceSub, Nat.reduceMul, Nat.reduceLeDiff]
    ((repeat refine W_seq ?_); refine W_region0 T_ok ?_)
    simp (maxSteps := 1000000) only [VL, VM, ↓Gd_none, ↓Gd_t, ↓Gd_f, reduceIte, reduceCtorEq, Int.reduceLE, Int.reduceLT, Int.reduceToNat, Int.reduceNeg, Nat.reduceLT, Nat.reduceEqDiff, Nat.reduceAdd, Nat.reduceSub, Nat.reduceMul, Nat.reduceLeDiff, e1, q3, hA]
    ((repeat refine W_seq ?_); refine W_region0 T_ok ?_)
    simp (maxSteps := 1000000) only [VL, VM, ↓Gd_none, ↓Gd_t, ↓Gd_f, reduceIte, reduceCtorEq, Int.reduceLE, Int.reduceLT, Int.reduceToNat, Int.reduceNeg, Nat.reduceLT, Nat.reduceEqDiff, Nat.reduceAdd, Nat.reduceSub, Nat.reduceMul, Nat.reduceLeDiff, k1]
    refine LoopK.mk ⟨i + 1, junk ++ [VObj.obj [vi k.lo, vi k.hi, vb k.water, intsV k.away, vi k.rent, vi k.most]]⟩ (by simp only; omega) (by simp only; omega) ⟨rfl, rfl, rfl, rfl, trivial⟩ ?_
    simp only
    rw [s1]
    simp
  have k2 : ((i : Int) < (h.kinds.length : Int)) = False := eq_false (by omega)
  obtain rfl : i = h.kinds.length := by omega
  simp (maxSteps := 1000000) only [VL, VM, ↓Gd_none, ↓Gd_t, ↓Gd_f, reduceIte, reduceCtorEq, Int.reduceLE, Int.reduceLT, Int.reduceToNat, Int.reduceNeg, Nat.reduceLT, Nat.reduceEqDiff, Nat.reduceAdd, Nat.reduceSub, Nat.reduceMul, Nat.reduceLeDiff, k2]
  ((repeat refine W_seq ?_); refine W_cond (b := false) (by first | rfl | simp only [ev, get_cons, Nat.reduceEqDiff, if_true, if_false, reduceIte]) (fun h => by cases h) (fun _ => ?_))
  ((repeat refine W_seq ?_); refine W_exit ?_)
  simp (maxSteps := 1000000) only [VL, VM, ↓Gd_none, ↓Gd_t, ↓Gd_f, reduceIte, reduceCtorEq, Int.reduceLE, Int.reduceLT, Int.reduceToNat, Int.reduceNeg, Nat.reduceLT, Nat.reduceEqDiff, Nat.reduceAdd, Nat.reduceSub, Nat.reduceMul, Nat.reduceLeDiff]
  ((repeat refine W_seq ?_); refine W_region0 T_ok ?_)
  simp (maxSteps := 1000000) only [VL, VM, ↓Gd_none, ↓Gd_t, ↓Gd_f, reduceIte, reduceCtorEq, Int.reduceLE, Int.reduceLT, Int.reduceToNat, Int.reduceNeg, Nat.reduceLT, Nat.reduceEqDiff, Nat.reduceAdd, Nat.reduceSub, Nat.reduceMul, Nat.reduceLeDiff]
  (repeat refine W_seq ?_)
  refine W_ret ?_
  try simp only [thenQ, blockQ]
  refine own_retX hCX (vs := [hallV h]) ?_ rfl rfl ⟨rfl, rfl⟩
  rw [List.take_length]
  simp [Try.f18, vresL, vload, t_hall, get_cons, hget, hget0, nat_ble, strip1]
set_option maxRecDepth 100000 in
set_option maxHeartbeats 1000000 in
theorem sameHalls_v (h : Ha) (M : Mem) (F : Fin h) : VC Try.prog 22 [hallV h, hallV h] M (fun r M' => M' = M ∧ r = vb true) := by
  have fw := F.water
  have fs := F.shut
  have fb := F.bears
  have fk := F.kinds
  refine VC_own' T_ok (f := 22) (fn := Try.f22) (by kernel_rfl) rfl Try.ntmps22 (by rfl) (by rfl) ?_
  ((repeat refine W_seq ?_); refine W_region0 T_ok ?_)
  simp (maxSteps := 1000000) only [VL, VM, ↓Gd_none, ↓Gd_t, ↓Gd_f, reduceIte, reduceCtorEq, Int.reduceLE, Int.reduceLT, Int.reduceToNat, Int.reduceNeg, Nat.reduceLT, Nat.reduceEqDiff, Nat.reduceAdd, Nat.reduceSub, Nat.reduceMul, Nat.reduceLeDiff]
  ((repeat refine W_seq ?_); refine W_region0 T_ok ?_)
  simp (maxSteps := 1000000) only [VL, VM, ↓Gd_none, ↓Gd_t, ↓Gd_f, reduceIte, reduceCtorEq, Int.reduceLE, Int.reduceLT, Int.reduceToNat, Int.reduceNeg, Nat.reduceLT, Nat.reduceEqDiff, Nat.reduceAdd, Nat.reduceSub, Nat.reduceMul, Nat.reduceLeDiff, eq_self, decide_true]
  apply call_eq (f := 52) (fn := Try.f52) (by kernel_rfl) (by rfl)
  · exact sameCells_v h.water h.water _ fw fw
  simp (maxSteps := 1000000) only [VL, VM, ↓Gd_none, ↓Gd_t, ↓Gd_f, reduceIte, reduceCtorEq, Int.reduceLE, Int.reduceLT, Int.reduceToNat, Int.reduceNeg, Nat.reduceLT, Nat.reduceEqDiff, Nat.reduceAdd, Nat.reduceSub, Nat.reduceMul, Nat.reduceLeDiff, eq_self, decide_true]
  apply call_eq (f := 52) (fn := Try.f52) (by kernel_rfl) (by rfl)
  · exact sameCells_v h.shut h.shut _ fs fs
  simp (maxSteps := 1000000) only [VL, VM, ↓Gd_none, ↓Gd_t, ↓Gd_f, reduceIte, reduceCtorEq, Int.reduceLE, Int.reduceLT, Int.reduceToNat, Int.reduceNeg, Nat.reduceLT, Nat.reduceEqDiff, Nat.reduceAdd, Nat.reduceSub, Nat.reduceMul, Nat.reduceLeDiff, eq_self, decide_true, v_eqCell]
  apply call_eq (f := 71) (fn := Try.f71) (by kernel_rfl) (by rfl)
  · exact sameInts_v h.bears h.bears _ fb fb
  simp (maxSteps := 1000000) only [VL, VM, ↓Gd_none, ↓Gd_t, ↓Gd_f, reduceIte, reduceCtorEq, Int.reduceLE, Int.reduceLT, Int.reduceToNat, Int.reduceNeg, Nat.reduceLT, Nat.reduceEqDiff, Nat.reduceAdd, Nat.reduceSub, Nat.reduceMul, Nat.reduceLeDiff, eq_self, decide_true]
  ((repeat refine W_seq ?_); refine W_region0 T_ok ?_)
  simp (maxSteps := 1000000) only [VL, VM, ↓Gd_none, ↓Gd_t, ↓Gd_f, reduceIte, reduceCtorEq, Int.reduceLE, Int.reduceLT, Int.reduceToNat, Int.reduceNeg, Nat.reduceLT, Nat.reduceEqDiff, Nat.reduceAdd, Nat.reduceSub, Nat.reduceMul, Nat.reduceLeDiff]
  ((repeat refine W_seq ?_); refine W_block ?_; (repeat refine W_seq ?_)); refine W_loopS (fun s : CpSt => [(2, .ptr M.H.length 0), (3, .ptr (M.H.length + 1) 0), (5, vb true), (6, vi s.i)]) (fun s => ⟨M.H ++ (VObj.obj (hallC h) :: VObj.obj (hallC h) :: s.junk), M.lg⟩) (fun s => h.kinds.length - s.i) (fun s => s.i ≤ h.kinds.length) ⟨0, []⟩ (Nat.zero_le _) ⟨rfl, rfl, rfl, rfl, trivial⟩ rfl ?_
  rintro ⟨i, junk⟩ hi
  simp only at hi
  have k1 : -9223372036854775808 ≤ (i : Int) + 1 ∧ (i : Int) + 1 < 9223372036854775808 := by omega
  ((repeat refine W_seq ?_); refine W_region0 T_ok ?_)
  rcases Nat.lt_or_ge i h.kinds.length with hlt | hge
  · have k2 : ((i : Int) < (h.kinds.length : Int)) = True := eq_true (by omega)
    have hx : h.kinds[i]? = some h.kinds[i] := List.getElem?_eq_getElem hlt
    have hx' := map_at (f := kiP) hx
    have haw := F.aways _ (List.getElem_mem hlt)
    generalize h.kinds[i] = k at hx hx' haw
    simp (maxSteps := 1000000) only [VL, VM, ↓Gd_none, ↓Gd_t, ↓Gd_f, reduceIte, reduceCtorEq, Int.reduceLE, Int.reduceLT, Int.reduceToNat, Int.reduceNeg, Nat.reduceLT, Nat.reduceEqDiff, Nat.reduceAdd, Nat.reduceSub, Nat.reduceMul, Nat.reduceLeDiff, k2]
    ((repeat refine W_seq ?_); refine W_cond (b := true) (by first | rfl | simp only [ev, get_cons, Nat.reduceEqDiff, if_true, if_false, reduceIte]) (fun _ => ?_) (fun h => by cases h))
    ((repeat refine W_seq ?_); refine W_skip ?_)
    simp (maxSteps := 1000000) only [VL, VM, ↓Gd_none, ↓Gd_t, ↓Gd_f, reduceIte, reduceCtorEq, Int.reduceLE, Int.reduceLT, Int.reduceToNat, Int.reduceNeg, Nat.reduceLT, Nat.reduceEqDiff, Nat.reduceAdd, Nat.reduceSub, Nat.reduceMul, Nat.reduceLeDiff]
    ((repeat refine W_seq ?_); refine W_block ?_)
    (repeat refine W_seq ?_)
    refine W_drawP T_ok [VObj.obj [vi 0, vi 0, vb false, .sf 0 [], vi 0, vi 0], VObj.obj [vi 0, vi 0, vb false, .sf 0 [], vi 0, vi 0]] (by kernel_rfl) (by kernel_rfl) ?_
    generalize hi : mkPlan _ = infs
    cbv at hi
    subst hi
    simp (maxSteps := 1000000) only [VL, VM, ↓Gd_none, ↓Gd_t, ↓Gd_f, reduceIte, reduceCtorEq, Int.reduceLE, Int.reduceLT, Int.reduceToNat, Int.reduceNeg, Nat.reduceLT, Nat.reduceEqDiff, Nat.reduceAdd, Nat.reduceSub, Nat.reduceMul, Nat.reduceLeDiff, hx']
    have hsp : vbin T .eql 54 (.agg [vi k.lo, vi k.hi]) (.agg [vi k.lo, vi k.hi]) = some (vb true) := (v_eqSpan ⟨k.lo, k.hi⟩ ⟨k.lo, k.hi⟩).trans (by simp)
    have hbw : vbin T .eql 4 (vb k.water) (vb k.water) = some (vb true) := (v_eqBool _ _).trans (by simp)
    ((repeat refine W_seq ?_); refine W_region0 T_ok ?_)
    simp (maxSteps := 1000000) only [VL, VM, ↓Gd_none, ↓Gd_t, ↓Gd_f, reduceIte, reduceCtorEq, Int.reduceLE, Int.reduceLT, Int.reduceToNat, Int.reduceNeg, Nat.reduceLT, Nat.reduceEqDiff, Nat.reduceAdd, Nat.reduceSub, Nat.reduceMul, Nat.reduceLeDiff, eq_self, decide_true, hsp, hbw]
    apply call_eq (f := 71) (fn := Try.f71) (by kernel_rfl) (by rfl)
    · exact sameInts_v k.away k.away _ haw haw
    simp (maxSteps := 1000000) only [VL, VM, ↓Gd_none, ↓Gd_t, ↓Gd_f, reduceIte, reduceCtorEq, Int.reduceLE, Int.reduceLT, Int.reduceToNat, Int.reduceNeg, Nat.reduceLT, Nat.reduceEqDiff, Nat.reduceAdd, Nat.reduceSub, Nat.reduceMul, Nat.reduceLeDiff, eq_self, decide_true]
    ((repeat refine W_seq ?_); refine W_region0 T_ok ?_)
    simp (maxSteps := 1000000) only [VL, VM, ↓Gd_none, ↓Gd_t, ↓Gd_f, reduceIte, reduceCtorEq, Int.reduceLE, Int.reduceLT, Int.reduceToNat, Int.reduceNeg, Nat.reduceLT, Nat.reduceEqDiff, Nat.reduceAdd, Nat.reduceSub, Nat.reduceMul, Nat.reduceLeDiff, k1]
    refine LoopK.mk ⟨i + 1, junk ++ [VObj.obj [vi k.lo, vi k.hi, vb k.water, intsV k.away, vi k.rent, vi k.most], VObj.obj [vi k.lo, vi k.hi, vb k.water, intsV k.away, vi k.rent, vi k.most]]⟩ (by simp only; omega) (by simp only; omega) ⟨rfl, rfl, rfl, rfl, trivial⟩ rfl
  have k2 : ((i : Int) < (h.kinds.length : Int)) = False := eq_false (by omega)
  simp (maxSteps := 1000000) only [VL, VM, ↓Gd_none, ↓Gd_t, ↓Gd_f, reduceIte, reduceCtorEq, Int.reduceLE, Int.reduceLT, Int.reduceToNat, Int.reduceNeg, Nat.reduceLT, Nat.reduceEqDiff, Nat.reduceAdd, Nat.reduceSub, Nat.reduceMul, Nat.reduceLeDiff, k2]
  ((repeat refine W_seq ?_); refine W_cond (b := false) (by first | rfl | simp only [ev, get_cons, Nat.reduceEqDiff, if_true, if_false, reduceIte]) (fun h => by cases h) (fun _ => ?_))
  ((repeat refine W_seq ?_); refine W_exit ?_)
  simp (maxSteps := 1000000) only [VL, VM, ↓Gd_none, ↓Gd_t, ↓Gd_f, reduceIte, reduceCtorEq, Int.reduceLE, Int.reduceLT, Int.reduceToNat, Int.reduceNeg, Nat.reduceLT, Nat.reduceEqDiff, Nat.reduceAdd, Nat.reduceSub, Nat.reduceMul, Nat.reduceLeDiff]
  ((repeat refine W_seq ?_); refine W_region0 T_ok ?_)
  simp (maxSteps := 1000000) only [VL, VM, ↓Gd_none, ↓Gd_t, ↓Gd_f, reduceIte, reduceCtorEq, Int.reduceLE, Int.reduceLT, Int.reduceToNat, Int.reduceNeg, Nat.reduceLT, Nat.reduceEqDiff, Nat.reduceAdd, Nat.reduceSub, Nat.reduceMul, Nat.reduceLeDiff]
  (repeat refine W_seq ?_)
  refine W_ret ?_
  try simp only [thenQ, blockQ]
  refine own_ret1 rfl ?_ (by rfl)
  simp only [get_cons, frz, vtup, Nat.reduceEqDiff, if_true, if_false, reduceIte]
end Go.Proofs.Ytijcmgfblpokhaa.Vm

/- Lists of halls and layouts, on values. (Vm) -/
namespace Go.Proofs.Ytijcmgfblpokhaa.Vm
open Go Go.Proofs
abbrev hallPP (h : Ha) : List PV := [.int .i64 h.wide, .int .i64 h.deep, .sl 2 (h.water.map plP), .sl 2 (h.shut.map plP), .int .i64 h.bay.x, .int .i64 h.bay.y, .sl 1 (h.bears.map intP), .sl 6 (h.kinds.map kiP)]
abbrev layPP (l : List Pu) : List PV := [.sl 3 (l.map puP)]
theorem not_vast {h : Ha} (e : vastB h = false) : Fin h := by
  simp only [vastB, Bool.or_eq_false_iff, decide_eq_false_iff_not, List.any_eq_false] at e
  obtain ⟨⟨⟨⟨e1, e2⟩, e3⟩, e4⟩, e5⟩ := e
  refine ⟨by omega, by omega, by omega, by omega, fun k hk => ?_⟩
  have := e1 k hk
  simp at this
  omega
end Go.Proofs.Ytijcmgfblpokhaa.Vm

/- Ranges over the places of a hall. (Vm) -/
namespace Go.Proofs.Ytijcmgfblpokhaa.Vm
open Go Go.Proofs
/-- the end of a function with a range in it -/
def ownK (T : Tab) (fn : Func) (M : Mem) (Q : VV → Mem → Prop) : PQ := fun ex e M' D => (ex = .normal ∨ ex = .ret) ∧ (∃ X, M'.lg = M.lg ++ X ∧ ∀ e ∈ X, M.H.length ≤ e.1) ∧ ∃ H1 L, vkill M.H.length D M'.H = some (H1 ++ L) ∧ H1.length = M.H.length ∧ ∃ vs, vresL T e ⟨H1 ++ L, M'.lg⟩ fn.results.toList = some vs ∧ ∃ r, frz M.H.length (H1 ++ L) (vtup vs) = r ∧ (∀ x ∈ refs r, x < M.H.length) ∧ Q r ⟨H1, M.lg⟩
theorem VC_ownK {P : Program} {T : Tab} (hT : TabOk P T) {f : Nat} {fn : Func} {c : Code} {nt : Nat} {args : List VV} {M : Mem} {Q : VV → Mem → Prop} (hf : T.fn f = some fn) (hb : fn.body = some c) (hnt : fn.ntmps = nt) (hn : Nat.ble args.length nt = true) (hk : T.keeps f = false)
    (h : WCode P ⟨f, none, nt⟩ c (zipEnv 0 args) M [] (ownK T fn M Q)) :
    VC P f args M Q := by
  subst hnt
  refine VC_fn hT hf hb (Nat.le_of_ble_eq_true hn) fun hlg => h.mono ?_
  rintro ex e M' D ⟨hex, ⟨X, hl, hX⟩, H1, L, hH, hlen, vs, h1, r, hr, h2, h3⟩
  have key : retQ T f M.H.length fn Q .ret e M' D := by
    simp only [retQ, hH]
    have hM : ({ M' with H := H1 ++ L } : Mem) = ⟨H1 ++ L, M'.lg⟩ := rfl
    rw [hM, h1]
    simp only
    have q1 : M'.lg.filter (fun e => Nat.blt e.1 M.H.length) = M.lg := by
      rw [hl, List.filter_append, List.filter_eq_self.2 fun e he => by rw [Nat.blt_eq]; exact (hlg e he).1, List.filter_eq_nil_iff.2 fun e he => by rw [Nat.blt_eq]; have := hX e he; omega, List.append_nil]
    have q2 : (M.lg.all fun e => Nat.blt e.2 M.H.length) = true := List.all_eq_true.2 fun e he => by rw [Nat.blt_eq]; exact (hlg e he).2
    have q3 : ((refs r).all (Nat.blt · M.H.length)) = true := List.all_eq_true.2 fun x hx => by rw [Nat.blt_eq]; exact h2 x hx
    have q4 : (H1 ++ L).take M.H.length = H1 := by rw [← hlen]; simp
    unfold vfinish
    simp only
    rw [hk, q1, hr, q2, q3, q4]
    exact h3
  rcases hex with rfl | rfl
  · exact key
  · exact key
theorem vkill_one {H L : List VObj} {j : Nat} (h : L[j]? = some .dfr) : vkill H.length [H.length + j] (H ++ L) = some (H ++ L.set j .dead) := by
  have h1 : Nat.ble H.length (H.length + j) = true := by rw [Nat.ble_eq]; omega
  simp only [vkill, h1, cond_true, hget, h, hset]
/-- the end, where memory is as it was, but for marks -/
theorem ownK_ret {T : Tab} {fn : Func} {M : Mem} {L L' : List VObj} {X : List (Nat × Nat)} {D : List Nat} {Q : VV → Mem → Prop} {e : Env} {vs : List VV} (hX : ∀ e ∈ X, M.H.length ≤ e.1) (hD : vkill M.H.length D (M.H ++ L) = some (M.H ++ L')) (h1 : vresL T e ⟨M.H ++ L', M.lg ++ X⟩ fn.results.toList = some vs) (h3 : Q (frz M.H.length (M.H ++ L') (vtup vs)) M) (h2 : refs (frz M.H.length (M.H ++ L') (vtup vs)) = []) : ownK T fn M Q .ret e ⟨M.H ++ L, M.lg ++ X⟩ D :=
  ⟨.inr rfl, ⟨X, rfl, hX⟩, M.H, L', hD, rfl, vs, h1, _, rfl, by simp [h2], h3⟩
theorem ownK_ret0 {T : Tab} {fn : Func} {M : Mem} {L : List VObj} {Q : VV → Mem → Prop} {e : Env} {vs : List VV} (h1 : vresL T e ⟨M.H ++ L, M.lg⟩ fn.results.toList = some vs) (h3 : Q (frz M.H.length (M.H ++ L) (vtup vs)) M) (h2 : refs (frz M.H.length (M.H ++ L) (vtup vs)) = []) : ownK T fn M Q .ret e ⟨M.H ++ L, M.lg⟩ [] :=
  ⟨.inr rfl, ⟨[], by simp, by simp⟩, M.H, L, rfl, rfl, vs, h1, _, rfl, by simp [h2], h3⟩
theorem rowsOf_get {n wd y x : Nat} (hy : y < n) (hx : x < wd) : (rowsOf n wd)[y * wd + x]? = some ⟨(x : Int), (y : Int)⟩ := by
  induction n with
  | zero => omega
  | succ n ih =>
    rw [rowsOf_succ]
    rcases Nat.lt_or_ge y n with h | h
    · have : y * wd + wd ≤ n * wd := by
        have := Nat.mul_le_mul_right wd (show y + 1 ≤ n by omega)
        rwa [Nat.succ_mul] at this
      rw [List.getElem?_append_left (by rw [rowsOf_len]; omega)]
      exact ih h
    · obtain rfl : y = n := by omega
      rw [List.getElem?_append_right (by rw [rowsOf_len]; omega), rowsOf_len, Nat.add_sub_cancel_left]
      simp [rowOf, hx]
/-- vault.places: a function value -/
theorem placesF_v (h : Ha) (M : Mem) : VC Try.prog 63 [hallV h] M (fun r M' => M' = ⟨M.H ++ [.obj (hallC h)], M.lg⟩ ∧ r = .fn (.func 87) [] [.ptr M.H.length 0]) := by
  refine VC_esc T_ok (f := 63) (fn := Try.f63) (by kernel_rfl) rfl Try.ntmps63 (by rfl) (by rfl) ?_
  ((repeat refine W_seq ?_); refine W_region0 T_ok ?_)
  simp (maxSteps := 1000000) only [VL, VM, ↓Gd_none, ↓Gd_t, ↓Gd_f, reduceIte, reduceCtorEq, Int.reduceLE, Int.reduceLT, Int.reduceToNat, Int.reduceNeg, Nat.reduceLT, Nat.reduceEqDiff, Nat.reduceAdd, Nat.reduceSub, Nat.reduceMul, Nat.reduceLeDiff]
  ((repeat refine W_seq ?_); refine W_region0 T_ok ?_)
  simp (maxSteps := 1000000) only [VL, VM, ↓Gd_none, ↓Gd_t, ↓Gd_f, reduceIte, reduceCtorEq, Int.reduceLE, Int.reduceLT, Int.reduceToNat, Int.reduceNeg, Nat.reduceLT, Nat.reduceEqDiff, Nat.reduceAdd, Nat.reduceSub, Nat.reduceMul, Nat.reduceLeDiff]
  (repeat refine W_seq ?_)
  refine W_ret ⟨.inr rfl, rfl, [.fn (.func 87) [] [.ptr M.H.length 0]], rfl, ⟨M.H.length, by simp [vtup, frz, frzL, refs, refsL], Nat.le_refl _⟩, rfl, rfl⟩
/-- places: what is yielded, place by place -/
theorem places1_v (h : Ha) (wd dp : Nat) (hw : h.wide = wd) (hd : h.deep = dp) (w6 : wd ≤ 1000) (d4 : dp ≤ 1000) (id k : Nat) (M : Mem) {σ : Type} (A : σ → List VObj) (good : Nat → σ → Prop) (s0 : σ) (h0 : good 0 s0) (hA : ∀ s, (A s).length = M.H.length) (hM : M.H = A s0) (hk : ∀ s, (A s)[k]? = some (.obj (hallC h)))
    (round : ∀ i c s junk, (rowsOf dp wd)[i]? = some c → good i s → VCall Try.prog (.yl id) [plV c] ⟨A s ++ junk, M.lg⟩ (fun r M' => r = vb true ∧ ∃ s' junk', M' = ⟨A s' ++ junk', M.lg⟩ ∧ good (i + 1) s')) :
    VC Try.prog 87 [.yl id, .ptr k 0] M (fun r M' => ∃ s, M' = ⟨A s, M.lg⟩ ∧ good (dp * wd) s) := by
  have hkl : ∀ s (junk : List VObj), (A s ++ junk)[k]? = some (.obj (hallC h)) := fun s junk => app_get (hk s) junk
  refine VC_ownK T_ok (f := 87) (fn := Try.f87) (by kernel_rfl) rfl Try.ntmps87 (by rfl) (by rfl) ?_
  obtain ⟨H, lg⟩ := M
  simp only at hM hA round
  subst hM
  have hk0 := hk s0
  ((repeat refine W_seq ?_); refine W_region0 T_ok ?_)
  simp (maxSteps := 1000000) only [VL, VM, ↓Gd_none, ↓Gd_t, ↓Gd_f, reduceIte, reduceCtorEq, Int.reduceLE, Int.reduceLT, Int.reduceToNat, Int.reduceNeg, Nat.reduceLT, Nat.reduceEqDiff, Nat.reduceAdd, Nat.reduceSub, Nat.reduceMul, Nat.reduceLeDiff, hk0, hd]
  ((repeat refine W_seq ?_); refine W_block ?_; (repeat refine W_seq ?_)); refine W_loopS (fun s : Nat × σ × List VObj => [(0, .yl id), (1, .ptr k 0), (6, vi dp), (7, vi s.1)]) (fun s => ⟨A s.2.1 ++ s.2.2, lg⟩) (fun s => dp - s.1) (fun s => s.1 ≤ dp ∧ good (s.1 * wd) s.2.1) (0, s0, []) ⟨Nat.zero_le _, by simpa using h0⟩ ⟨rfl, rfl, rfl, rfl, trivial⟩ (by simp) ?_
  rintro ⟨y, s, junk⟩ ⟨hy, hg⟩
  simp only at hy hg
  have y1 : -9223372036854775808 ≤ (y : Int) + 1 ∧ (y : Int) + 1 < 9223372036854775808 := by omega
  ((repeat refine W_seq ?_); refine W_region0 T_ok ?_)
  rcases Nat.lt_or_ge y dp with hlt | hge
  rotate_left
  · have k2 : ((y : Int) < (dp : Int)) = False := eq_false (by omega)
    obtain rfl : y = dp := by omega
    simp (maxSteps := 1000000) only [VL, VM, ↓Gd_none, ↓Gd_t, ↓Gd_f, reduceIte, reduceCtorEq, Int.reduceLE, Int.reduceLT, Int.reduceToNat, Int.reduceNeg, Nat.reduceLT, Nat.reduceEqDiff, Nat.reduceAdd, Nat.reduceSub, Nat.reduceMul, Nat.reduceLeDiff, k2]
    ((repeat refine W_seq ?_); refine W_cond (b := false) (by first | rfl | simp only [ev, get_cons, Nat.reduceEqDiff, if_true, if_false, reduceIte]) (fun h => by cases h) (fun _ => ?_))
    ((repeat refine W_seq ?_); refine W_exit ?_)
    simp (maxSteps := 1000000) only [VL, VM, ↓Gd_none, ↓Gd_t, ↓Gd_f, reduceIte, reduceCtorEq, Int.reduceLE, Int.reduceLT, Int.reduceToNat, Int.reduceNeg, Nat.reduceLT, Nat.reduceEqDiff, Nat.reduceAdd, Nat.reduceSub, Nat.reduceMul, Nat.reduceLeDiff]
    exact ⟨.inl rfl, ⟨[], by simp, by simp⟩, A s, junk, rfl, hA s, [], rfl, _, rfl, by simp [vtup, frz, frzL, refs, refsL], s, rfl, hg⟩
  have k2 : ((y : Int) < (dp : Int)) = True := eq_true (by omega)
  simp (maxSteps := 1000000) only [VL, VM, ↓Gd_none, ↓Gd_t, ↓Gd_f, reduceIte, reduceCtorEq, Int.reduceLE, Int.reduceLT, Int.reduceToNat, Int.reduceNeg, Nat.reduceLT, Nat.reduceEqDiff, Nat.reduceAdd, Nat.reduceSub, Nat.reduceMul, Nat.reduceLeDiff, k2]
  ((repeat refine W_seq ?_); refine W_cond (b := true) (by first | rfl | simp only [ev, get_cons, Nat.reduceEqDiff, if_true, if_false, reduceIte]) (fun _ => ?_) (fun h => by cases h))
  ((repeat refine W_seq ?_); refine W_skip ?_)
  simp (maxSteps := 1000000) only [VL, VM, ↓Gd_none, ↓Gd_t, ↓Gd_f, reduceIte, reduceCtorEq, Int.reduceLE, Int.reduceLT, Int.reduceToNat, Int.reduceNeg, Nat.reduceLT, Nat.reduceEqDiff, Nat.reduceAdd, Nat.reduceSub, Nat.reduceMul, Nat.reduceLeDiff]
  ((repeat refine W_seq ?_); refine W_block ?_)
  ((repeat refine W_seq ?_); refine W_region0 T_ok ?_)
  simp (maxSteps := 1000000) only [VL, VM, ↓Gd_none, ↓Gd_t, ↓Gd_f, reduceIte, reduceCtorEq, Int.reduceLE, Int.reduceLT, Int.reduceToNat, Int.reduceNeg, Nat.reduceLT, Nat.reduceEqDiff, Nat.reduceAdd, Nat.reduceSub, Nat.reduceMul, Nat.reduceLeDiff]
  ((repeat refine W_seq ?_); refine W_region0 T_ok ?_)
  simp (maxSteps := 1000000) only [VL, VM, ↓Gd_none, ↓Gd_t, ↓Gd_f, reduceIte, reduceCtorEq, Int.reduceLE, Int.reduceLT, Int.reduceToNat, Int.reduceNeg, Nat.reduceLT, Nat.reduceEqDiff, Nat.reduceAdd, Nat.reduceSub, Nat.reduceMul, Nat.reduceLeDiff, hkl, hw]
  ((repeat refine W_seq ?_); refine W_block ?_; (repeat refine W_seq ?_)); refine W_loopS (fun s : Nat × σ × List VObj => [(0, .yl id), (1, .ptr k 0), (3, vi y), (6, vi dp), (7, vi y), (11, vi wd), (12, vi s.1)]) (fun s => ⟨A s.2.1 ++ s.2.2, lg⟩) (fun s => wd - s.1) (fun s => s.1 ≤ wd ∧ good (y * wd + s.1) s.2.1) (0, s, junk) ⟨Nat.zero_le _, by simpa using hg⟩ ⟨rfl, rfl, rfl, rfl, rfl, rfl, rfl, trivial⟩ rfl ?_
  rintro ⟨x, s, junk⟩ ⟨hx, hg⟩
  simp only at hx hg
  have x1 : -9223372036854775808 ≤ (x : Int) + 1 ∧ (x : Int) + 1 < 9223372036854775808 := by omega
  ((repeat refine W_seq ?_); refine W_region0 T_ok ?_)
  rcases Nat.lt_or_ge x wd with hlx | hgx
  rotate_left
  · have k3 : ((x : Int) < (wd : Int)) = False := eq_false (by omega)
    obtain rfl : x = wd := by omega
    simp (maxSteps := 1000000) only [VL, VM, ↓Gd_none, ↓Gd_t, ↓Gd_f, reduceIte, reduceCtorEq, Int.reduceLE, Int.reduceLT, Int.reduceToNat, Int.reduceNeg, Nat.reduceLT, Nat.reduceEqDiff, Nat.reduceAdd, Nat.reduceSub, Nat.reduceMul, Nat.reduceLeDiff, k3]
    ((repeat refine W_seq ?_); refine W_cond (b := false) (by first | rfl | simp only [ev, get_cons, Nat.reduceEqDiff, if_true, if_false, reduceIte]) (fun h => by cases h) (fun _ => ?_))
    ((repeat refine W_seq ?_); refine W_exit ?_)
    simp (maxSteps := 1000000) only [VL, VM, ↓Gd_none, ↓Gd_t, ↓Gd_f, reduceIte, reduceCtorEq, Int.reduceLE, Int.reduceLT, Int.reduceToNat, Int.reduceNeg, Nat.reduceLT, Nat.reduceEqDiff, Nat.reduceAdd, Nat.reduceSub, Nat.reduceMul, Nat.reduceLeDiff]
    ((repeat refine W_seq ?_); refine W_region0 T_ok ?_)
    simp (maxSteps := 1000000) only [VL, VM, ↓Gd_none, ↓Gd_t, ↓Gd_f, reduceIte, reduceCtorEq, Int.reduceLE, Int.reduceLT, Int.reduceToNat, Int.reduceNeg, Nat.reduceLT, Nat.reduceEqDiff, Nat.reduceAdd, Nat.reduceSub, Nat.reduceMul, Nat.reduceLeDiff, y1]
    refine LoopK.mk (y + 1, s, junk) (by simp only; omega) ⟨by simp only; omega, by simp only [Nat.succ_mul]; exact hg⟩ ⟨rfl, rfl, rfl, rfl, trivial⟩ rfl
  have k3 : ((x : Int) < (wd : Int)) = True := eq_true (by omega)
  simp (maxSteps := 1000000) only [VL, VM, ↓Gd_none, ↓Gd_t, ↓Gd_f, reduceIte, reduceCtorEq, Int.reduceLE, Int.reduceLT, Int.reduceToNat, Int.reduceNeg, Nat.reduceLT, Nat.reduceEqDiff, Nat.reduceAdd, Nat.reduceSub, Nat.reduceMul, Nat.reduceLeDiff, k3]
  ((repeat refine W_seq ?_); refine W_cond (b := true) (by first | rfl | simp only [ev, get_cons, Nat.reduceEqDiff, if_true, if_false, reduceIte]) (fun _ => ?_) (fun h => by cases h))
  ((repeat refine W_seq ?_); refine W_skip ?_)
  simp (maxSteps := 1000000) only [VL, VM, ↓Gd_none, ↓Gd_t, ↓Gd_f, reduceIte, reduceCtorEq, Int.reduceLE, Int.reduceLT, Int.reduceToNat, Int.reduceNeg, Nat.reduceLT, Nat.reduceEqDiff, Nat.reduceAdd, Nat.reduceSub, Nat.reduceMul, Nat.reduceLeDiff]
  ((repeat refine W_seq ?_); refine W_block ?_)
  ((repeat refine W_seq ?_); refine W_region0 T_ok ?_)
  simp (maxSteps := 1000000) only [VL, VM, ↓Gd_none, ↓Gd_t, ↓Gd_f, reduceIte, reduceCtorEq, Int.reduceLE, Int.reduceLT, Int.reduceToNat, Int.reduceNeg, Nat.reduceLT, Nat.reduceEqDiff, Nat.reduceAdd, Nat.reduceSub, Nat.reduceMul, Nat.reduceLeDiff]
  ((repeat refine W_seq ?_); refine W_region0 T_ok ?_)
  simp (maxSteps := 1000000) only [VL, VM, ↓Gd_none, ↓Gd_t, ↓Gd_f, reduceIte, reduceCtorEq, Int.reduceLE, Int.reduceLT, Int.reduceToNat, Int.reduceNeg, Nat.reduceLT, Nat.reduceEqDiff, Nat.reduceAdd, Nat.reduceSub, Nat.reduceMul, Nat.reduceLeDiff]
  refine (round (y * wd + x) ⟨x, y⟩ s junk (rowsOf_get hlt hlx) hg).mono ?_
  rintro _ _ ⟨rfl, s', junk', rfl, hg'⟩
  simp (maxSteps := 1000000) only [VL, VM, ↓Gd_none, ↓Gd_t, ↓Gd_f, reduceIte, reduceCtorEq, Int.reduceLE, Int.reduceLT, Int.reduceToNat, Int.reduceNeg, Nat.reduceLT, Nat.reduceEqDiff, Nat.reduceAdd, Nat.reduceSub, Nat.reduceMul, Nat.reduceLeDiff]
  ((repeat refine W_seq ?_); refine W_cond (b := false) (by first | rfl | simp only [ev, get_cons, Nat.reduceEqDiff, if_true, if_false, reduceIte]) (fun h => by cases h) (fun _ => ?_))
  ((repeat refine W_seq ?_); refine W_skip ?_)
  simp (maxSteps := 1000000) only [VL, VM, ↓Gd_none, ↓Gd_t, ↓Gd_f, reduceIte, reduceCtorEq, Int.reduceLE, Int.reduceLT, Int.reduceToNat, Int.reduceNeg, Nat.reduceLT, Nat.reduceEqDiff, Nat.reduceAdd, Nat.reduceSub, Nat.reduceMul, Nat.reduceLeDiff]
  ((repeat refine W_seq ?_); refine W_region0 T_ok ?_)
  simp (maxSteps := 1000000) only [VL, VM, ↓Gd_none, ↓Gd_t, ↓Gd_f, reduceIte, reduceCtorEq, Int.reduceLE, Int.reduceLT, Int.reduceToNat, Int.reduceNeg, Nat.reduceLT, Nat.reduceEqDiff, Nat.reduceAdd, Nat.reduceSub, Nat.reduceMul, Nat.reduceLeDiff, x1]
  refine LoopK.mk (x + 1, s', junk') (by simp only; omega) ⟨by simp only; omega, by simp only; exact hg'⟩ ⟨rfl, rfl, rfl, rfl, rfl, rfl, rfl, trivial⟩ rfl
theorem get_prune_mem {vs : List Nat} {e : Env} {t : Nat} (h : t ∈ vs) : get (prune vs e) t = get e t := by
  unfold prune
  induction vs with
  | nil => cases h
  | cons v vs ih =>
    simp only [List.map_cons, get_cons]
    by_cases h' : t = v
    · rw [if_pos h', h']
    · rw [if_neg h']
      exact ih (by rcases List.mem_cons.1 h with h | h; exact absurd h h'; exact h)
theorem Sub_prune {vs : List Nat} {e : Env} : ∀ {E : Env}, Sub E e → (E.map Prod.fst).all (fun t => vs.contains t) = true → Sub E (prune vs e)
  | [], _, _ => trivial
  | (k, v) :: r, h, hv => by
    simp only [List.map_cons, List.all_cons, Bool.and_eq_true, List.contains_iff_mem] at hv
    exact ⟨(get_prune_mem hv.1).trans h.1, Sub_prune h.2 hv.2⟩
/-- **a range over the places of a hall** -/
theorem W_places {cx : Cx} {e : Env} {M : Mem} {D : List Nat} {Q : PQ} {g : Operand} {p : Nat} {assign body : Code} (hrd : cx.rd = none) {k : Nat} (hg : ev e g = .fn (.func 87) [] [.ptr k 0]) (h : Ha) {wd dp : Nat} (hw : h.wide = wd) (hd : h.deep = dp) (w6 : wd ≤ 1000) (d4 : dp ≤ 1000)
    {σ : Type} (E : Env) (A : σ → List VObj) (good : Nat → σ → Prop) (s0 : σ) (h0 : good 0 s0) (hA : ∀ s, (A s).length = M.H.length) (hM : M.H = A s0) (hk : ∀ s, (A s)[k]? = some (.obj (hallC h))) (hp : Nat.blt p cx.nt = true) (hE : Sub E e) (hv : (E.map Prod.fst).all (fun t => (T.vars cx.fid).contains t) = true)
    (round : ∀ (o o' : VObj) i c s junk, (rowsOf dp wd)[i]? = some c → good i s → WCode Try.prog ⟨cx.fid, some (M.H.length + 1), cx.nt⟩ assign ((p, plV c) :: E) ⟨A s ++ .dfr :: o :: junk, M.lg⟩ []
      (fun ex e' M' D' => ex = .normal ∧ ∃ junk', M' = ⟨A s ++ .dfr :: o :: junk', M.lg⟩ ∧ WCode Try.prog ⟨cx.fid, some (M.H.length + 1), cx.nt⟩ body e' ⟨A s ++ .dfr :: o' :: junk', M.lg⟩ D'
        (fun ex e2 M2 D2 => ex = .normal ∧ ∃ s' junk2, M2 = ⟨A s' ++ .dfr :: o' :: junk2, M.lg⟩ ∧ good (i + 1) s')))
    (fin : ∀ (o : VObj) s, good (dp * wd) s → Q .normal e ⟨A s ++ [.dfr, o], M.lg⟩ (M.H.length :: D)) : WCode Try.prog cx (.rangeFunc g #[p] assign body) e M D Q := by
  obtain ⟨H, lg⟩ := M
  simp only at hA hM round fin
  subst hM
  obtain ⟨Lp, hLp⟩ : ∃ Lp, Lp = mkLoop T cx e #[p] assign body (A s0).length := ⟨_, rfl⟩
  have hget : ∀ (s : σ) (x y : VObj) (junk : List VObj), (A s ++ x :: y :: junk)[(A s0).length + 1]? = some y := fun s x y junk => by
    rw [← hA s, List.getElem?_append_right (by omega)]; simp
  have hset : ∀ (s : σ) (x y z : VObj) (junk : List VObj), (A s ++ x :: y :: junk).set ((A s0).length + 1) z = A s ++ x :: z :: junk := fun s x y z junk => by
    rw [← hA s, List.set_append_right _ _ (by omega)]; simp
  refine W_range T_ok (f := 87) (fn := Try.f87) hrd hg (by kernel_rfl) ?_
  rw [← hLp]
  have hst : (Mem.push (Mem.push ⟨A s0, lg⟩ .dfr) (.lp Lp)) = ⟨A s0 ++ [.dfr, .lp Lp], lg⟩ := by simp [Mem.push]
  rw [hst]
  have hargs : (([] ++ [VV.yl ((A s0).length + 1)] ++ [VV.ptr k 0]).map (sarg T 87)) = [.yl ((A s0).length + 1), .ptr k 0] := by
    have hkf : T.keeps 87 = false := by rfl
    simp [sarg, hkf, strip1]
  show VC Try.prog 87 (([] ++ [VV.yl ((A s0).length + 1)] ++ [VV.ptr k 0]).map (sarg T 87)) _ _
  rw [hargs]
  refine (places1_v h wd dp hw hd w6 d4 ((A s0).length + 1) k ⟨A s0 ++ [.dfr, .lp Lp], lg⟩ (fun s => A s ++ [.dfr, .lp Lp]) good s0 h0 (fun s => by simp [hA]) rfl (fun s => app_get (hk s) _) ?_).mono ?_
  · intro i c s junk hi hgd
    have hm : (A s ++ [.dfr, .lp Lp]) ++ junk = A s ++ .dfr :: .lp Lp :: junk := by simp
    rw [hm]
    refine V_yield (L := Lp) (e0 := (p, plV c) :: prune (T.vars cx.fid) e) (hget s _ _ _) (by rw [hLp]; simp [mkLoop, vputs, hp]) ?_
    have f1 : Lp.fid = cx.fid := by rw [hLp]; rfl
    have f2 : Lp.nt = cx.nt := by rw [hLp]; rfl
    have f3 : Lp.assign = assign := by rw [hLp]; rfl
    have f4 : Lp.body = body := by rw [hLp]; rfl
    rw [f1, f2, f3, f4]
    refine (WCode.weak (round (.lp Lp) (.lp (Lp.with .busy none)) i c s junk hi hgd) ?_).mono ?_
    · intro t
      rw [get_cons, get_cons]
      by_cases ht : t = p
      · rw [if_pos ht, if_pos ht]; exact .inl rfl
      · rw [if_neg ht, if_neg ht]; exact (Sub_prune hE hv).ok t
    · rintro ex e' M' D' ⟨rfl, junk', rfl, hb⟩
      refine ⟨Lp, hget s _ _ _, by rw [hLp]; rfl, ?_⟩
      simp only [Mem.loop, hset]
      have hpd : Lp.pend = none := by rw [hLp]; rfl
      rw [hpd]
      refine hb.mono ?_
      rintro ex e2 M2 D2 ⟨rfl, s', junk2, rfl, hg'⟩
      refine ⟨Lp.with .busy none, hget s' _ _ _, ?_⟩
      simp only [Mem.loop, hset]
      have hback : ∀ L : LoopV, L.st = .ready → L.pend = none → (L.with .busy none).with .ready none = L := fun L h1 h2 => by
        cases L
        simp only at h1 h2
        subst h1 h2
        rfl
      rw [hback Lp (by rw [hLp]; rfl) hpd]
      exact ⟨by trivial, s', junk2, by simp, hg'⟩
  · rintro r M' ⟨s, rfl, hgd⟩
    refine ⟨Lp, hget s _ _ _, by rw [hLp]; rfl, ?_⟩
    have hpd : Lp.pend = none := by rw [hLp]; rfl
    simp only [Mem.loop, hset, hpd]
    exact fin _ s hgd
end Go.Proofs.Ytijcmgfblpokhaa.Vm
