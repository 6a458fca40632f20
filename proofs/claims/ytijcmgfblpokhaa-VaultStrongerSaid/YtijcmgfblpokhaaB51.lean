/- A part of the proofs about the chapter of the vaults; it states no condition of its own. -/
import Derived.Test.YtijcmgfblpokhaaB45
import Derived.Test.YtijcmgfblpokhaaB50
set_option linter.unusedVariables false
set_option linter.unusedSimpArgs false
/- What layouts earn, on values. (Vm) -/
namespace Go.Proofs.Ytijcmgfblpokhaa.Vm
open Go Go.Proofs
theorem rent_step {h : Ha} {l : List Pu} {i : Nat} {p : Pu} (hx : l[i]? = some p) : rentOf h (l.take (i + 1)) = rentOf h (l.take i) + (kAt h p.kind).rent := by
  unfold rentOf
  rw [List.take_add_one, hx, Option.toList, List.map_append, List.sum_append]
  simp
theorem rent_le {h : Ha} {l : List Pu} (V : VH h) (hg : ∀ o ∈ l, GoodP h o) : 0 ≤ rentOf h l ∧ rentOf h l ≤ 1000000 * l.length := by
  induction l with
  | nil => simp [rentOf]
  | cons p l ih =>
    have ih := ih fun o ho => hg o (List.mem_cons_of_mem _ ho)
    obtain ⟨p1, p2, p3, p4, p5, p6⟩ := (hg p (List.mem_cons_self ..)).bounds V
    have kv := kAt_VK V p5 p6
    have r1 := kv.rent0
    have r2 := kv.rent1
    simp only [rentOf, List.map_cons, List.sum_cons, List.length_cons] at ih ⊢
    omega
def earnsR (h : Ha) (l : List Pu) : Int := if layoutErr h l = 0 then rentOf h l else 0
theorem Earns_vm (h : Ha) (l : List Pu) (M : Mem) (F : Fin h) (hl : l.length ≤ 1000000) : VC Try.prog 34 [hallV h, pusV l] M (fun r M' => M' = M ∧ r = .tup [vi (earnsR h l), vi (layoutErr h l)]) := by
  refine VC_own' T_ok (f := 34) (fn := Try.f34) (by kernel_rfl) rfl Try.ntmps34 (by rfl) (by rfl) ?_
  ((repeat refine W_seq ?_); refine W_region0 T_ok ?_)
  simp (maxSteps := 1000000) only [VL, VM, ↓Gd_none, ↓Gd_t, ↓Gd_f, reduceIte, reduceCtorEq, Int.reduceLE, Int.reduceLT, Int.reduceToNat, Int.reduceNeg, Nat.reduceLT, Nat.reduceEqDiff, Nat.reduceAdd, Nat.reduceSub, Nat.reduceMul, Nat.reduceLeDiff]
  ((repeat refine W_seq ?_); refine W_region0 T_ok ?_)
  simp (maxSteps := 1000000) only [VL, VM, ↓Gd_none, ↓Gd_t, ↓Gd_f, reduceIte, reduceCtorEq, Int.reduceLE, Int.reduceLT, Int.reduceToNat, Int.reduceNeg, Nat.reduceLT, Nat.reduceEqDiff, Nat.reduceAdd, Nat.reduceSub, Nat.reduceMul, Nat.reduceLeDiff]
  apply call_eq (f := 37) (fn := Try.f37) (by kernel_rfl) (by rfl)
  · exact checkLayout_vm h l _ F hl
  simp (maxSteps := 1000000) only [VL, VM, ↓Gd_none, ↓Gd_t, ↓Gd_f, reduceIte, reduceCtorEq, Int.reduceLE, Int.reduceLT, Int.reduceToNat, Int.reduceNeg, Nat.reduceLT, Nat.reduceEqDiff, Nat.reduceAdd, Nat.reduceSub, Nat.reduceMul, Nat.reduceLeDiff]
  ((repeat refine W_seq ?_); refine W_region0 T_ok ?_)
  by_cases e : layoutErr h l = 0
  rotate_left
  · simp (maxSteps := 1000000) only [VL, VM, ↓Gd_none, ↓Gd_t, ↓Gd_f, reduceIte, reduceCtorEq, Int.reduceLE, Int.reduceLT, Int.reduceToNat, Int.reduceNeg, Nat.reduceLT, Nat.reduceEqDiff, Nat.reduceAdd, Nat.reduceSub, Nat.reduceMul, Nat.reduceLeDiff, e]
    ((repeat refine W_seq ?_); refine W_cond (b := true) (by first | rfl | simp only [ev, get_cons, Nat.reduceEqDiff, if_true, if_false, reduceIte]) (fun _ => ?_) (fun h => by cases h))
    ((repeat refine W_seq ?_); refine W_region0 T_ok ?_)
    simp (maxSteps := 1000000) only [VL, VM, ↓Gd_none, ↓Gd_t, ↓Gd_f, reduceIte, reduceCtorEq, Int.reduceLE, Int.reduceLT, Int.reduceToNat, Int.reduceNeg, Nat.reduceLT, Nat.reduceEqDiff, Nat.reduceAdd, Nat.reduceSub, Nat.reduceMul, Nat.reduceLeDiff]
    (repeat refine W_seq ?_)
    refine W_ret ?_
    try simp only [thenQ, blockQ]
    refine own_ret2 rfl ?_ rfl rfl rfl
    simp [get_cons, frz, earnsR, e]
  have hL := (layout_ok.1 e).2
  have hlen := lay_len hL
  have V := VH.of (layout_ok.1 e).1
  have hg := lay_good hL
  simp (maxSteps := 1000000) only [VL, VM, ↓Gd_none, ↓Gd_t, ↓Gd_f, reduceIte, reduceCtorEq, Int.reduceLE, Int.reduceLT, Int.reduceToNat, Int.reduceNeg, Nat.reduceLT, Nat.reduceEqDiff, Nat.reduceAdd, Nat.reduceSub, Nat.reduceMul, Nat.reduceLeDiff, e]
  ((repeat refine W_seq ?_); refine W_cond (b := false) (by first | rfl | simp only [ev, get_cons, Nat.reduceEqDiff, if_true, if_false, reduceIte]) (fun h => by cases h) (fun _ => ?_))
  ((repeat refine W_seq ?_); refine W_skip ?_)
  simp (maxSteps := 1000000) only [VL, VM, ↓Gd_none, ↓Gd_t, ↓Gd_f, reduceIte, reduceCtorEq, Int.reduceLE, Int.reduceLT, Int.reduceToNat, Int.reduceNeg, Nat.reduceLT, Nat.reduceEqDiff, Nat.reduceAdd, Nat.reduceSub, Nat.reduceMul, Nat.reduceLeDiff]
  ((repeat refine W_seq ?_); refine W_region0 T_ok ?_)
  simp (maxSteps := 1000000) only [VL, VM, ↓Gd_none, ↓Gd_t, ↓Gd_f, reduceIte, reduceCtorEq, Int.reduceLE, Int.reduceLT, Int.reduceToNat, Int.reduceNeg, Nat.reduceLT, Nat.reduceEqDiff, Nat.reduceAdd, Nat.reduceSub, Nat.reduceMul, Nat.reduceLeDiff]
  ((repeat refine W_seq ?_); refine W_region0 T_ok ?_)
  simp (maxSteps := 1000000) only [VL, VM, ↓Gd_none, ↓Gd_t, ↓Gd_f, reduceIte, reduceCtorEq, Int.reduceLE, Int.reduceLT, Int.reduceToNat, Int.reduceNeg, Nat.reduceLT, Nat.reduceEqDiff, Nat.reduceAdd, Nat.reduceSub, Nat.reduceMul, Nat.reduceLeDiff]
  ((repeat refine W_seq ?_); refine W_block ?_; (repeat refine W_seq ?_)); refine W_loopS (fun s : Nat × List VObj => [(2, .ptr M.H.length 0), (7, vi (rentOf h (l.take s.1))), (16, pusV l), (17, vi (l.length : Int)), (18, vi s.1)]) (fun s => ⟨M.H ++ (VObj.obj (hallC h) :: s.2), M.lg⟩) (fun s => l.length - s.1) (fun s => s.1 ≤ l.length) (0, []) (Nat.zero_le _) ⟨rfl, rfl, rfl, rfl, rfl, trivial⟩ rfl ?_
  rintro ⟨i, junk⟩ hi
  simp only at hi
  have k1 : -9223372036854775808 ≤ (i : Int) + 1 ∧ (i : Int) + 1 < 9223372036854775808 := by omega
  ((repeat refine W_seq ?_); refine W_region0 T_ok ?_)
  rcases Nat.lt_or_ge i l.length with hlt | hge
  · have k2 : ((i : Int) < (l.length : Int)) = True := eq_true (by omega)
    have hx : l[i]? = some l[i] := List.getElem?_eq_getElem hlt
    have hx' := map_at (f := puP) hx
    have hmem := List.getElem_mem hlt
    generalize hc : l[i] = p at hx hx' hmem
    obtain ⟨p1, p2, p3, p4, p5, p6⟩ := (hg p hmem).bounds V
    have kp := map_at (f := kiP) (kAt_some p5 p6)
    have kv := kAt_VK V p5 p6
    have r1 := kv.rent0
    have r2 := kv.rent1
    have hr := rent_le (h := h) (l := l.take i) V (fun o ho => hg o (List.mem_of_mem_take ho))
    rw [List.length_take, Nat.min_eq_left hi] at hr
    have k3 : -9223372036854775808 ≤ rentOf h (l.take i) + (kAt h p.kind).rent ∧ rentOf h (l.take i) + (kAt h p.kind).rent < 9223372036854775808 := by omega
    have hs := rent_step (h := h) hx
    simp (maxSteps := 1000000) only [VL, VM, ↓Gd_none, ↓Gd_t, ↓Gd_f, reduceIte, reduceCtorEq, Int.reduceLE, Int.reduceLT, Int.reduceToNat, Int.reduceNeg, Nat.reduceLT, Nat.reduceEqDiff, Nat.reduceAdd, Nat.reduceSub, Nat.reduceMul, Nat.reduceLeDiff, k2]
    ((repeat refine W_seq ?_); refine W_cond (b := true) (by first | rfl | simp only [ev, get_cons, Nat.reduceEqDiff, if_true, if_false, reduceIte]) (fun _ => ?_) (fun h => by cases h))
    ((repeat refine W_seq ?_); refine W_skip ?_)
    simp (maxSteps := 1000000) only [VL, VM, ↓Gd_none, ↓Gd_t, ↓Gd_f, reduceIte, reduceCtorEq, Int.reduceLE, Int.reduceLT, Int.reduceToNat, Int.reduceNeg, Nat.reduceLT, Nat.reduceEqDiff, Nat.reduceAdd, Nat.reduceSub, Nat.reduceMul, Nat.reduceLeDiff]
    ((repeat refine W_seq ?_); refine W_block ?_)
    ((repeat refine W_seq ?_); refine W_region0 T_ok ?_)
    simp (maxSteps := 1000000) only [VL, VM, ↓Gd_none, ↓Gd_t, ↓Gd_f, reduceIte, reduceCtorEq, Int.reduceLE, Int.reduceLT, Int.reduceToNat, Int.reduceNeg, Nat.reduceLT, Nat.reduceEqDiff, Nat.reduceAdd, Nat.reduceSub, Nat.reduceMul, Nat.reduceLeDiff, hx']
    ((repeat refine W_seq ?_); refine W_region0 T_ok ?_)
    simp (maxSteps := 1000000) only [VL, VM, ↓Gd_none, ↓Gd_t, ↓Gd_f, reduceIte, reduceCtorEq, Int.reduceLE, Int.reduceLT, Int.reduceToNat, Int.reduceNeg, Nat.reduceLT, Nat.reduceEqDiff, Nat.reduceAdd, Nat.reduceSub, Nat.reduceMul, Nat.reduceLeDiff, p5, kp, k3]
    ((repeat refine W_seq ?_); refine W_region0 T_ok ?_)
    simp (maxSteps := 1000000) only [VL, VM, ↓Gd_none, ↓Gd_t, ↓Gd_f, reduceIte, reduceCtorEq, Int.reduceLE, Int.reduceLT, Int.reduceToNat, Int.reduceNeg, Nat.reduceLT, Nat.reduceEqDiff, Nat.reduceAdd, Nat.reduceSub, Nat.reduceMul, Nat.reduceLeDiff, k1]
    refine LoopK.mk (i + 1, _) (by simp; omega) (by simp; omega) ⟨rfl, ?_, rfl, rfl, rfl, trivial⟩ rfl
    rw [hs]; simp [get_cons]
  have k2 : ((i : Int) < (l.length : Int)) = False := eq_false (by omega)
  obtain rfl : i = l.length := by omega
  simp (maxSteps := 1000000) only [VL, VM, ↓Gd_none, ↓Gd_t, ↓Gd_f, reduceIte, reduceCtorEq, Int.reduceLE, Int.reduceLT, Int.reduceToNat, Int.reduceNeg, Nat.reduceLT, Nat.reduceEqDiff, Nat.reduceAdd, Nat.reduceSub, Nat.reduceMul, Nat.reduceLeDiff, k2]
  ((repeat refine W_seq ?_); refine W_cond (b := false) (by first | rfl | simp only [ev, get_cons, Nat.reduceEqDiff, if_true, if_false, reduceIte]) (fun h => by cases h) (fun _ => ?_))
  ((repeat refine W_seq ?_); refine W_exit ?_)
  simp (maxSteps := 1000000) only [VL, VM, ↓Gd_none, ↓Gd_t, ↓Gd_f, reduceIte, reduceCtorEq, Int.reduceLE, Int.reduceLT, Int.reduceToNat, Int.reduceNeg, Nat.reduceLT, Nat.reduceEqDiff, Nat.reduceAdd, Nat.reduceSub, Nat.reduceMul, Nat.reduceLeDiff]
  ((repeat refine W_seq ?_); refine W_region0 T_ok ?_)
  simp (maxSteps := 1000000) only [VL, VM, ↓Gd_none, ↓Gd_t, ↓Gd_f, reduceIte, reduceCtorEq, Int.reduceLE, Int.reduceLT, Int.reduceToNat, Int.reduceNeg, Nat.reduceLT, Nat.reduceEqDiff, Nat.reduceAdd, Nat.reduceSub, Nat.reduceMul, Nat.reduceLeDiff]
  (repeat refine W_seq ?_)
  refine W_ret ?_
  try simp only [thenQ, blockQ]
  refine own_ret2 rfl ?_ rfl rfl rfl
  rw [List.take_length]
  simp [get_cons, frz, earnsR, e]
end Go.Proofs.Ytijcmgfblpokhaa.Vm

/- Lists that are the same, on values. (Vm) -/
namespace Go.Proofs.Ytijcmgfblpokhaa.Vm
open Go Go.Proofs
end Go.Proofs.Ytijcmgfblpokhaa.Vm

/- Layouts in another order, and fewer puts: plain facts. (Vm) -/
namespace Go.Proofs.Ytijcmgfblpokhaa.Vm
open Go Go.Proofs
def ownB (h : Ha) (p : Pu) : Bool := isPl h p.pl && !hasPl h.shut p.pl && isKind h p.kind && (!(kAt h p.kind).water || hasPl h.water p.pl)
def Compat (h : Ha) (o p : Pu) : Prop := o.pl ≠ p.pl ∧ clash h o p = false
theorem far_symm (a b : Pl) : farOf a b = farOf b a := by
  unfold farOf
  rw [Int.max_comm (a.x - b.x), Int.max_comm (a.y - b.y)]
theorem clash_symm (h : Ha) (o p : Pu) : clash h o p = clash h p o := by
  unfold clash
  rw [far_symm, Int.max_comm]
theorem Compat.symm {h : Ha} {o p : Pu} (c : Compat h o p) : Compat h p o := ⟨fun e => c.1 e.symm, by rw [clash_symm]; exact c.2⟩
theorem putErr_zero {h : Ha} {b : List Pu} {p : Pu} : putErr h b p = 0 ↔ ownB h p = true ∧ ∀ o ∈ b, Compat h o p := by
  unfold putErr ownB Compat
  cases h1 : isPl h p.pl
  · simp
  cases h2 : hasPl h.shut p.pl
  rotate_left
  · simp
  cases h3 : isKind h p.kind
  · simp
  cases h4 : b.any fun o => decide (o.pl = p.pl)
  rotate_left
  · simp only [Bool.not_true, Bool.false_eq_true, if_false, if_true]
    rw [List.any_eq_true] at h4
    obtain ⟨o, ho, h4⟩ := h4
    rw [decide_eq_true_eq] at h4
    constructor
    · intro h; omega
    · intro h; exact absurd h4 (h.2 o ho).1
  cases h5 : ((kAt h p.kind).water && !hasPl h.water p.pl)
  rotate_left
  · simp only [Bool.not_true, Bool.false_eq_true, if_false, if_true]
    constructor
    · intro h; omega
    · intro h; simp at h5; simp [h5] at h
  have h5' : (!(kAt h p.kind).water || hasPl h.water p.pl) = true := by
    cases q1 : (kAt h p.kind).water <;> cases q2 : hasPl h.water p.pl <;> simp_all
  cases h6 : b.any fun o => clash h o p
  rotate_left
  · simp only [Bool.not_true, Bool.false_eq_true, if_false, if_true]
    rw [List.any_eq_true] at h6
    obtain ⟨o, ho, h6⟩ := h6
    constructor
    · intro h; omega
    · intro h
      have := (h.2 o ho).2
      rw [h6] at this; cases this
  rw [List.any_eq_false] at h4 h6
  simp only [h5', Bool.not_true, Bool.not_false, Bool.and_true, Bool.false_eq_true, if_false, true_and]
  simp only [decide_eq_true_eq] at h4
  constructor
  · intro _ o ho
    exact ⟨h4 o ho, by simpa using h6 o ho⟩
  · intro _; trivial
/-- what a valid layout is, without an order -/
def LayOk (h : Ha) (l : List Pu) : Prop := l.length ≤ 24 ∧ (∀ p ∈ l, ownB h p = true) ∧ l.Pairwise (Compat h) ∧ ∀ (k : Nat) (q : Ki), h.kinds[k]? = some q → (manyOf l k : Int) ≤ q.most
theorem layErr_zero {h : Ha} {l : List Pu} : layErr h l = 0 ↔ LayOk h l := by
  have hputs : firstErr (putErrAt h l) l.length = 0 ↔ (∀ p ∈ l, ownB h p = true) ∧ l.Pairwise (Compat h) := by
    rw [firstErr_zero]
    constructor
    · intro hz
      have hz' : ∀ k (hk : k < l.length), ownB h l[k] = true ∧ ∀ o ∈ l.take k, Compat h o l[k] := by
        intro k hk
        have := hz k hk
        unfold putErrAt at this
        rw [List.getElem?_eq_getElem hk] at this
        exact putErr_zero.1 this
      refine ⟨fun p hp => ?_, ?_⟩
      · obtain ⟨k, hk, rfl⟩ := List.getElem_of_mem hp
        exact (hz' k hk).1
      · rw [List.pairwise_iff_getElem]
        intro i j hi hj hij
        refine (hz' j hj).2 l[i] ?_
        rw [List.mem_take_iff_getElem]
        exact ⟨i, by omega, rfl⟩
    · rintro ⟨h1, h2⟩ k hk
      unfold putErrAt
      rw [List.getElem?_eq_getElem hk]
      refine putErr_zero.2 ⟨h1 _ (List.getElem_mem hk), fun o ho => ?_⟩
      rw [List.mem_take_iff_getElem] at ho
      obtain ⟨i, hi, rfl⟩ := ho
      exact List.pairwise_iff_getElem.1 h2 i k (by omega) hk (by omega)
  have hover : firstErr (overAt h l) h.kinds.length = 0 ↔ ∀ (k : Nat) (q : Ki), h.kinds[k]? = some q → (manyOf l k : Int) ≤ q.most := by
    rw [firstErr_zero]
    constructor
    · intro hz k q hq
      have := hz k (List.getElem?_eq_some_iff.1 hq).1
      unfold overAt at this
      rw [hq] at this
      simp only at this
      split at this
      · omega
      · omega
    · intro hz k hk
      unfold overAt
      rw [List.getElem?_eq_getElem hk]
      have := hz k _ (List.getElem?_eq_getElem hk)
      simp only
      rw [if_neg (by omega)]
  unfold layErr LayOk
  split
  · constructor
    · intro h; omega
    · intro h; omega
  · split
    · rename_i h1 h2
      constructor
      · intro h; exact absurd h h2
      · rintro ⟨_, a, b, _⟩
        exact absurd (hputs.2 ⟨a, b⟩) h2
    · rename_i h1 h2
      rw [hover]
      have h3 := hputs.1 (Decidable.not_not.1 h2)
      constructor
      · intro h; exact ⟨by omega, h3.1, h3.2, h⟩
      · intro h; exact h.2.2.2
theorem LayOk.sub {h : Ha} {l m : List Pu} (hs : m.Sublist l) (hl : LayOk h l) : LayOk h m :=
  ⟨by have := hs.length_le; have := hl.1; omega, fun p hm => hl.2.1 p (hs.mem hm), hl.2.2.1.sublist hs, fun k q hq => by
    have h1 := hl.2.2.2 k q hq
    have h2 := (hs.filter fun p : Pu => decide (p.kind = (k : Int))).length_le
    unfold manyOf at h1 ⊢
    omega⟩
theorem sum_sub {l m : List Int} (hs : m.Sublist l) (h0 : ∀ x ∈ l, 0 ≤ x) : m.sum ≤ l.sum := by
  induction hs with
  | slnil => simp
  | cons x _ ih =>
    have := ih fun y hy => h0 y (List.mem_cons_of_mem _ hy)
    have := h0 x (List.mem_cons_self ..)
    simp only [List.sum_cons]; omega
  | cons_cons x _ ih =>
    have := ih fun y hy => h0 y (List.mem_cons_of_mem _ hy)
    simp only [List.sum_cons]; omega
theorem loadAt_sub {h : Ha} {l m : List Pu} (V : VH h) (hg : ∀ o ∈ l, GoodP h o) (hs : m.Sublist l) (b : Nat) : (loadAt h m b).lo ≤ (loadAt h l b).lo ∧ (loadAt h m b).hi ≤ (loadAt h l b).hi := by
  have hv : ∀ p ∈ l, 0 ≤ (kAt h p.kind).lo ∧ 0 ≤ (kAt h p.kind).hi := fun p hp => by
    obtain ⟨p1, p2, p3, p4, p5, p6⟩ := (hg p hp).bounds V
    have kv := kAt_VK V p5 p6
    have r1 := kv.lo0
    have r2 := kv.loHi
    omega
  unfold loadAt
  constructor
  · refine sum_sub ((hs.filter _).map _) fun x hx => ?_
    obtain ⟨p, hp, rfl⟩ := List.mem_map.1 hx
    exact (hv p (List.mem_filter.1 hp).1).1
  · refine sum_sub ((hs.filter _).map _) fun x hx => ?_
    obtain ⟨p, hp, rfl⟩ := List.mem_map.1 hx
    exact (hv p (List.mem_filter.1 hp).1).2
theorem verdict_sub {h : Ha} {l m : List Pu} (V : VH h) (hg : ∀ o ∈ l, GoodP h o) (hs : m.Sublist l) (hv : verdictOf h l = 1) : verdictOf h m = 1 := by
  unfold verdictOf at *
  have hf : fitsHi h l h.bears.length = true := by
    cases hq : fitsHi h l h.bears.length with
    | true => rfl
    | false =>
      rw [hq] at hv
      cases hq2 : fitsLo h l h.bears.length <;> rw [hq2] at hv <;> simp at hv
  have hf2 : fitsHi h m h.bears.length = true := by
    unfold fitsHi at *
    rw [List.all_eq_true] at *
    intro i hi
    have h1 := hf i hi
    have h2 := loadAt_sub V hg hs i
    simp only [decide_eq_true_eq] at *
    omega
  rw [hf2]; rfl
end Go.Proofs.Ytijcmgfblpokhaa.Vm
