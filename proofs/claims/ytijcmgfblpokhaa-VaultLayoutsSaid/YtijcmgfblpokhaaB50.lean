/- A part of the proofs about the chapter of the vaults; it states no condition of its own. -/
import Derived.Test.YtijcmgfblpokhaaB44
import Derived.Test.YtijcmgfblpokhaaB46
set_option linter.unusedVariables false
set_option linter.unusedSimpArgs false
/- The law of ends, on values. (Vm) -/
namespace Go.Proofs.Ytijcmgfblpokhaa.Vm
open Go Go.Proofs
theorem v_neSpan (a b : Sp) : vbin T .neq 54 (spV a) (spV b) = some (vb (!decide (a = b))) := by
  simp only [vbin, t_span, veq2]
  cases a; cases b
  rename_i a b c d
  by_cases h1 : a = c <;> by_cases h2 : b = d <;> simp [h1, h2]
theorem v_eqBool (a b : Bool) : vbin T .eql 4 (vb a) (vb b) = some (vb (a == b)) := by
  simp only [vbin, t_bool]
theorem DH_tail (M : Mem) (u : Int) (L : List VObj) : DH (M.H ++ [.dead]) M.H.length u L = M.H ++ (.obj [uv u] :: L) := by
  unfold DH
  rw [List.append_assoc]
  have := hset0 M.H ([.dead] ++ L) (.obj [uv u])
  rw [this]
  rfl
def loOf (h : Ha) (l : List Pu) : List Int := l.map fun p => (kAt h p.kind).lo
def hiOf (h : Ha) (l : List Pu) : List Int := l.map fun p => (kAt h p.kind).hi
theorem loadAt_car (h : Ha) (l : List Pu) (b : Nat) : loadAt h l b = ⟨carAt h l (loOf h l) b, carAt h l (hiOf h l) b⟩ := by
  unfold loadAt loOf hiOf
  rw [carAt_map, carAt_map]
theorem bornB_hi {h : Ha} {l : List Pu} (V : VH h) : bornB h (carOf h l (hiOf h l)) h.bears.length = fitsHi h l h.bears.length := by
  have hb := V.bears
  unfold bornB fitsHi
  rw [Bool.eq_iff_iff, List.all_eq_true, List.all_eq_true]
  have : ∀ i ∈ List.range h.bears.length, (carOf h l (hiOf h l)).getD i 0 = (loadAt h l i).hi := fun i hi => by
    have hi := List.mem_range.1 hi
    rw [loadAt_car]
    simp [carOf, show i < (baysOf h).toNat by omega]
  constructor
  · intro h1 i hi; rw [← this i hi]; exact h1 i hi
  · intro h1 i hi; rw [this i hi]; exact h1 i hi
theorem bornB_lo {h : Ha} {l : List Pu} (V : VH h) : bornB h (carOf h l (loOf h l)) h.bears.length = fitsLo h l h.bears.length := by
  have hb := V.bears
  unfold bornB fitsLo
  rw [Bool.eq_iff_iff, List.all_eq_true, List.all_eq_true]
  have : ∀ i ∈ List.range h.bears.length, (carOf h l (loOf h l)).getD i 0 = (loadAt h l i).lo := fun i hi => by
    have hi := List.mem_range.1 hi
    rw [loadAt_car]
    simp [carOf, show i < (baysOf h).toNat by omega]
  constructor
  · intro h1 i hi; rw [← this i hi]; exact h1 i hi
  · intro h1 i hi; rw [this i hi]; exact h1 i hi
theorem fits_le {h : Ha} {l : List Pu} (V : VH h) (hg : ∀ o ∈ l, GoodP h o) (k : Nat) (hf : fitsHi h l k = true) : fitsLo h l k = true := by
  unfold fitsHi fitsLo at *
  rw [List.all_eq_true] at *
  intro i hi
  have h1 := hf i hi
  have h2 := loadAt_lohi V hg i
  simp only [decide_eq_true_eq] at *
  omega
theorem ends_v (awake : ∀ M, VC Try.prog 15 [] M (fun r M' => M' = M ∧ r = vb true)) (xs : List Int) (M : Mem) (hl : xs.length ≤ maxLen) : VC Try.prog 5 [intsV xs] M (fun r M' => M' = M ∧ r = vb true) := by
  refine VC_own' T_ok (f := 5) (fn := Try.f5) (by kernel_rfl) rfl Try.ntmps5 (by rfl) (by rfl) ?_
  ((repeat refine W_seq ?_); refine W_region0 T_ok ?_)
  simp (maxSteps := 1000000) only [VL, VM, ↓Gd_none, ↓Gd_t, ↓Gd_f, reduceIte, reduceCtorEq, Int.reduceLE, Int.reduceLT, Int.reduceToNat, Int.reduceNeg, Nat.reduceLT, Nat.reduceEqDiff, Nat.reduceAdd, Nat.reduceSub, Nat.reduceMul, Nat.reduceLeDiff]
  ((repeat refine W_seq ?_); refine W_region0 T_ok ?_)
  simp (maxSteps := 1000000) only [VL, VM, ↓Gd_none, ↓Gd_t, ↓Gd_f, reduceIte, reduceCtorEq, Int.reduceLE, Int.reduceLT, Int.reduceToNat, Int.reduceNeg, Nat.reduceLT, Nat.reduceEqDiff, Nat.reduceAdd, Nat.reduceSub, Nat.reduceMul, Nat.reduceLeDiff]
  apply call_eq (f := 17) (fn := Try.f17) (by kernel_rfl) (by rfl)
  · exact dieOf_v xs M hl
  obtain ⟨H0, hH0⟩ : ∃ H0, H0 = M.H ++ [VObj.dead] := ⟨_, rfl⟩
  obtain ⟨d, hdd⟩ : ∃ d, d = M.H.length := ⟨_, rfl⟩
  have hd : d < H0.length := by rw [hH0, hdd]; simp
  rw [← hH0, ← hdd]
  have tail : ∀ u L, DH H0 d u L = M.H ++ (.obj [uv u] :: L) := fun u L => by rw [hH0, hdd]; exact DH_tail M u L
  generalize dieU xs = u0
  simp (maxSteps := 1000000) only [VL, VM, ↓Gd_none, ↓Gd_t, ↓Gd_f, reduceIte, reduceCtorEq, Int.reduceLE, Int.reduceLT, Int.reduceToNat, Int.reduceNeg, Nat.reduceLT, Nat.reduceEqDiff, Nat.reduceAdd, Nat.reduceSub, Nat.reduceMul, Nat.reduceLeDiff]
  ((repeat refine W_seq ?_); refine W_region0 T_ok ?_)
  simp (maxSteps := 1000000) only [VL, VM, ↓Gd_none, ↓Gd_t, ↓Gd_f, reduceIte, reduceCtorEq, Int.reduceLE, Int.reduceLT, Int.reduceToNat, Int.reduceNeg, Nat.reduceLT, Nat.reduceEqDiff, Nat.reduceAdd, Nat.reduceSub, Nat.reduceMul, Nat.reduceLeDiff]
  refine fn_call (f := 16) (fn := Try.f16) (by kernel_rfl) (by rfl) ?_
  refine (hallOf_v hd u0 M.lg 5 3 3 (by omega) (by omega) (by omega)).mono ?_
  rintro _ _ ⟨h, u1, wd, dp, rfl, rfl, hG, hW, hD, hN⟩
  have hv := hG.ok
  have V := VH.of hv
  have F := hG.fin
  simp (maxSteps := 1000000) only [VL, VM, ↓Gd_none, ↓Gd_t, ↓Gd_f, reduceIte, reduceCtorEq, Int.reduceLE, Int.reduceLT, Int.reduceToNat, Int.reduceNeg, Nat.reduceLT, Nat.reduceEqDiff, Nat.reduceAdd, Nat.reduceSub, Nat.reduceMul, Nat.reduceLeDiff, DH_app hd, DH_len, DH_len0, DH_get hd, DH_get0 hd, DH_set hd, DH_set0 hd, DH_setd, DH_die hd]
  ((repeat refine W_seq ?_); refine W_region0 T_ok ?_)
  simp (maxSteps := 1000000) only [VL, VM, ↓Gd_none, ↓Gd_t, ↓Gd_f, reduceIte, reduceCtorEq, Int.reduceLE, Int.reduceLT, Int.reduceToNat, Int.reduceNeg, Nat.reduceLT, Nat.reduceEqDiff, Nat.reduceAdd, Nat.reduceSub, Nat.reduceMul, Nat.reduceLeDiff, DH_app hd, DH_len, DH_len0, DH_get hd, DH_get0 hd, DH_set hd, DH_set0 hd, DH_setd, DH_die hd]
  refine fn_call (f := 23) (fn := Try.f23) (by kernel_rfl) (by rfl) ?_
  rw [DH_base]
  refine (layoutOf_v (by rw [List.length_append]; omega) u1 M.lg h 8 V F (by omega) hv).mono ?_
  rintro _ _ ⟨l, u2, rfl, rfl, hle, hlm⟩
  rw [← DH_base]
  have hg := lay_good hle
  have hlen := lay_len hle
  have hle2 : layoutErr h l = 0 := layout_ok.2 ⟨hv, hle⟩
  simp (maxSteps := 1000000) only [VL, VM, ↓Gd_none, ↓Gd_t, ↓Gd_f, reduceIte, reduceCtorEq, Int.reduceLE, Int.reduceLT, Int.reduceToNat, Int.reduceNeg, Nat.reduceLT, Nat.reduceEqDiff, Nat.reduceAdd, Nat.reduceSub, Nat.reduceMul, Nat.reduceLeDiff]
  ((repeat refine W_seq ?_); refine W_region0 T_ok ?_)
  simp (maxSteps := 1000000) only [VL, VM, ↓Gd_none, ↓Gd_t, ↓Gd_f, reduceIte, reduceCtorEq, Int.reduceLE, Int.reduceLT, Int.reduceToNat, Int.reduceNeg, Nat.reduceLT, Nat.reduceEqDiff, Nat.reduceAdd, Nat.reduceSub, Nat.reduceMul, Nat.reduceLeDiff]
  refine W_tok (t := 6) (k := 1) rfl ?_
  refine W_tok (t := 7) (k := 1) rfl ?_
  ((repeat refine W_seq ?_); refine W_region0 T_ok ?_)
  simp (maxSteps := 1000000) only [VL, VM, ↓Gd_none, ↓Gd_t, ↓Gd_f, reduceIte, reduceCtorEq, Int.reduceLE, Int.reduceLT, Int.reduceToNat, Int.reduceNeg, Nat.reduceLT, Nat.reduceEqDiff, Nat.reduceAdd, Nat.reduceSub, Nat.reduceMul, Nat.reduceLeDiff, DH_app hd, DH_len, DH_len0, DH_get hd, DH_get0 hd, DH_set hd, DH_set0 hd, DH_setd, DH_die hd]
  ((repeat refine W_seq ?_); refine W_block ?_; (repeat refine W_seq ?_)); refine W_loopS (fun i : Nat => [(3, .ptr d 0), (4, .ptr H0.length 0), (5, pusV l), (6, .so (H0.length + 1) 1 (((loOf h l).take i).map intP)), (7, .so (H0.length + 2) 1 (((hiOf h l).take i).map intP)), (8, vi i)]) (fun i => ⟨DH H0 d u2 [VObj.obj (hallC h), .clm i 1, .clm i 1], M.lg⟩) (fun i => l.length - i) (fun i => i ≤ l.length) 0 (Nat.zero_le _) ⟨rfl, rfl, rfl, rfl, rfl, rfl, trivial⟩ rfl ?_
  rintro i hi
  have k1 : -9223372036854775808 ≤ (i : Int) + 1 ∧ (i : Int) + 1 < 9223372036854775808 := by omega
  ((repeat refine W_seq ?_); refine W_region0 T_ok ?_)
  rcases Nat.lt_or_ge i l.length with hlt | hge
  · have k2 : ((i : Int) < (l.length : Int)) = True := eq_true (by omega)
    have hx : l[i]? = some l[i] := List.getElem?_eq_getElem hlt
    have hx' := map_at (f := puP) hx
    have hmem := List.getElem_mem hlt
    generalize hc : l[i] = p at hx hx' hmem
    obtain ⟨p1, p2, p3, p4, p5, p6⟩ := (hg p hmem).bounds V
    have kp := map_at (f := kiP) (kAt_some p5 p6)
    have q1 : ((i + 1) * 8 ≤ 140737488355328) = True := eq_true (by omega)
    have e1 : ((loOf h l).take i).length = i := by rw [List.length_take]; simp [loOf]; omega
    have e2 : ((hiOf h l).take i).length = i := by rw [List.length_take]; simp [hiOf]; omega
    have s1 : (loOf h l).take (i + 1) = (loOf h l).take i ++ [(kAt h p.kind).lo] := by
      rw [List.take_add_one]
      simp [loOf, hx]
    have s2 : (hiOf h l).take (i + 1) = (hiOf h l).take i ++ [(kAt h p.kind).hi] := by
      rw [List.take_add_one]
      simp [hiOf, hx]
    generalize (loOf h l).take i = la at e1 s1
    generalize (hiOf h l).take i = lb at e2 s2
    simp (maxSteps := 1000000) only [VL, VM, ↓Gd_none, ↓Gd_t, ↓Gd_f, reduceIte, reduceCtorEq, Int.reduceLE, Int.reduceLT, Int.reduceToNat, Int.reduceNeg, Nat.reduceLT, Nat.reduceEqDiff, Nat.reduceAdd, Nat.reduceSub, Nat.reduceMul, Nat.reduceLeDiff, k2]
    ((repeat refine W_seq ?_); refine W_cond (b := true) (by first | rfl | simp only [ev, get_cons, Nat.reduceEqDiff, if_true, if_false, reduceIte]) (fun _ => ?_) (fun h => by cases h))
    ((repeat refine W_seq ?_); refine W_skip ?_)
    simp (maxSteps := 1000000) only [VL, VM, ↓Gd_none, ↓Gd_t, ↓Gd_f, reduceIte, reduceCtorEq, Int.reduceLE, Int.reduceLT, Int.reduceToNat, Int.reduceNeg, Nat.reduceLT, Nat.reduceEqDiff, Nat.reduceAdd, Nat.reduceSub, Nat.reduceMul, Nat.reduceLeDiff]
    ((repeat refine W_seq ?_); refine W_block ?_)
    (repeat refine W_seq ?_)
    refine W_drawP T_ok [] (by kernel_rfl) (by kernel_rfl) ?_
    generalize hi : mkPlan _ = infs
    cbv at hi
    subst hi
    simp (maxSteps := 1000000) only [VL, VM, ↓Gd_none, ↓Gd_t, ↓Gd_f, reduceIte, reduceCtorEq, Int.reduceLE, Int.reduceLT, Int.reduceToNat, Int.reduceNeg, Nat.reduceLT, Nat.reduceEqDiff, Nat.reduceAdd, Nat.reduceSub, Nat.reduceMul, Nat.reduceLeDiff, DH_app hd, DH_len, DH_len0, DH_get hd, DH_get0 hd, DH_set hd, DH_set0 hd, DH_setd, DH_die hd, hx', p5, kp, e1, e2, q1]
    ((repeat refine W_seq ?_); refine W_region0 T_ok ?_)
    simp (maxSteps := 1000000) only [VL, VM, ↓Gd_none, ↓Gd_t, ↓Gd_f, reduceIte, reduceCtorEq, Int.reduceLE, Int.reduceLT, Int.reduceToNat, Int.reduceNeg, Nat.reduceLT, Nat.reduceEqDiff, Nat.reduceAdd, Nat.reduceSub, Nat.reduceMul, Nat.reduceLeDiff, k1]
    refine LoopK.mk (i + 1) (by omega) (by omega) ⟨rfl, rfl, rfl, ?_, ?_, rfl, trivial⟩ rfl
    · rw [s1]; simp [get_cons]
    · rw [s2]; simp [get_cons]
  have k2 : ((i : Int) < (l.length : Int)) = False := eq_false (by omega)
  obtain rfl : i = l.length := by omega
  have hlo : (loOf h l).take l.length = loOf h l := List.take_of_length_le (by simp [loOf])
  have hhi : (hiOf h l).take l.length = hiOf h l := List.take_of_length_le (by simp [hiOf])
  rw [hlo, hhi]
  have blo : ∀ y ∈ loOf h l, 0 ≤ y ∧ y ≤ 1000000 := by
    intro y hy
    obtain ⟨p, hp, rfl⟩ := List.mem_map.1 hy
    obtain ⟨p1, p2, p3, p4, p5, p6⟩ := (hg p hp).bounds V
    have kv := kAt_VK V p5 p6
    have r1 := kv.lo0
    have r2 := kv.loHi
    have r3 := kv.hi1
    omega
  have bhi : ∀ y ∈ hiOf h l, 0 ≤ y ∧ y ≤ 1000000 := by
    intro y hy
    obtain ⟨p, hp, rfl⟩ := List.mem_map.1 hy
    obtain ⟨p1, p2, p3, p4, p5, p6⟩ := (hg p hp).bounds V
    have kv := kAt_VK V p5 p6
    have r1 := kv.lo0
    have r2 := kv.loHi
    have r3 := kv.hi1
    omega
  clear k1 hi hge hlo hhi
  simp (maxSteps := 1000000) only [VL, VM, ↓Gd_none, ↓Gd_t, ↓Gd_f, reduceIte, reduceCtorEq, Int.reduceLE, Int.reduceLT, Int.reduceToNat, Int.reduceNeg, Nat.reduceLT, Nat.reduceEqDiff, Nat.reduceAdd, Nat.reduceSub, Nat.reduceMul, Nat.reduceLeDiff, k2]
  ((repeat refine W_seq ?_); refine W_cond (b := false) (by first | rfl | simp only [ev, get_cons, Nat.reduceEqDiff, if_true, if_false, reduceIte]) (fun h => by cases h) (fun _ => ?_))
  ((repeat refine W_seq ?_); refine W_exit ?_)
  simp (maxSteps := 1000000) only [VL, VM, ↓Gd_none, ↓Gd_t, ↓Gd_f, reduceIte, reduceCtorEq, Int.reduceLE, Int.reduceLT, Int.reduceToNat, Int.reduceNeg, Nat.reduceLT, Nat.reduceEqDiff, Nat.reduceAdd, Nat.reduceSub, Nat.reduceMul, Nat.reduceLeDiff]
  (repeat refine W_seq ?_)
  refine W_drawP T_ok [] (by kernel_rfl) (by kernel_rfl) ?_
  generalize hi : mkPlan _ = infs
  cbv at hi
  subst hi
  simp (maxSteps := 1000000) only [VL, VM, ↓Gd_none, ↓Gd_t, ↓Gd_f, reduceIte, reduceCtorEq, Int.reduceLE, Int.reduceLT, Int.reduceToNat, Int.reduceNeg, Nat.reduceLT, Nat.reduceEqDiff, Nat.reduceAdd, Nat.reduceSub, Nat.reduceMul, Nat.reduceLeDiff, DH_app hd, DH_len, DH_len0, DH_get hd, DH_get0 hd, DH_set hd, DH_set0 hd, DH_setd, DH_die hd]
  apply call_d (f := 26) (fn := Try.f26) (by kernel_rfl) (by rfl)
  · exact carried_v h l (loOf h l) _ V hg (by omega) (by simp [loOf]) blo
  simp (maxSteps := 1000000) only [VL, VM, ↓Gd_none, ↓Gd_t, ↓Gd_f, reduceIte, reduceCtorEq, Int.reduceLE, Int.reduceLT, Int.reduceToNat, Int.reduceNeg, Nat.reduceLT, Nat.reduceEqDiff, Nat.reduceAdd, Nat.reduceSub, Nat.reduceMul, Nat.reduceLeDiff, DH_app hd, DH_len, DH_len0, DH_get hd, DH_get0 hd, DH_set hd, DH_set0 hd, DH_setd, DH_die hd]
  apply call_d (f := 26) (fn := Try.f26) (by kernel_rfl) (by rfl)
  · exact carried_v h l (hiOf h l) _ V hg (by omega) (by simp [hiOf]) bhi
  simp (maxSteps := 1000000) only [VL, VM, ↓Gd_none, ↓Gd_t, ↓Gd_f, reduceIte, reduceCtorEq, Int.reduceLE, Int.reduceLT, Int.reduceToNat, Int.reduceNeg, Nat.reduceLT, Nat.reduceEqDiff, Nat.reduceAdd, Nat.reduceSub, Nat.reduceMul, Nat.reduceLeDiff, DH_app hd, DH_len, DH_len0, DH_get hd, DH_get0 hd, DH_set hd, DH_set0 hd, DH_setd, DH_die hd]
  ((repeat refine W_seq ?_); refine W_region0 T_ok ?_)
  simp (maxSteps := 1000000) only [VL, VM, ↓Gd_none, ↓Gd_t, ↓Gd_f, reduceIte, reduceCtorEq, Int.reduceLE, Int.reduceLT, Int.reduceToNat, Int.reduceNeg, Nat.reduceLT, Nat.reduceEqDiff, Nat.reduceAdd, Nat.reduceSub, Nat.reduceMul, Nat.reduceLeDiff, DH_app hd, DH_len, DH_len0, DH_get hd, DH_get0 hd, DH_set hd, DH_set0 hd, DH_setd, DH_die hd]
  apply call_eq (f := 24) (fn := Try.f24) (by kernel_rfl) (by rfl)
  · exact Loads_vm h l _ F (by omega)
  rw [show loadsR h l = spsV (loadsOf h l) from if_pos hle2, hle2]
  simp (maxSteps := 1000000) only [VL, VM, ↓Gd_none, ↓Gd_t, ↓Gd_f, reduceIte, reduceCtorEq, Int.reduceLE, Int.reduceLT, Int.reduceToNat, Int.reduceNeg, Nat.reduceLT, Nat.reduceEqDiff, Nat.reduceAdd, Nat.reduceSub, Nat.reduceMul, Nat.reduceLeDiff, DH_app hd, DH_len, DH_len0, DH_get hd, DH_get0 hd, DH_set hd, DH_set0 hd, DH_setd, DH_die hd]
  ((repeat refine W_seq ?_); refine W_region0 T_ok ?_)
  simp (maxSteps := 1000000) only [VL, VM, ↓Gd_none, ↓Gd_t, ↓Gd_f, reduceIte, reduceCtorEq, Int.reduceLE, Int.reduceLT, Int.reduceToNat, Int.reduceNeg, Nat.reduceLT, Nat.reduceEqDiff, Nat.reduceAdd, Nat.reduceSub, Nat.reduceMul, Nat.reduceLeDiff, DH_app hd, DH_len, DH_len0, DH_get hd, DH_get0 hd, DH_set hd, DH_set0 hd, DH_setd, DH_die hd]
  apply call_eq (f := 25) (fn := Try.f25) (by kernel_rfl) (by rfl)
  · exact Bears_vm h l _ F (by omega)
  rw [show bearsOut h l = verdictOf h l from if_pos hle2, hle2]
  simp (maxSteps := 1000000) only [VL, VM, ↓Gd_none, ↓Gd_t, ↓Gd_f, reduceIte, reduceCtorEq, Int.reduceLE, Int.reduceLT, Int.reduceToNat, Int.reduceNeg, Nat.reduceLT, Nat.reduceEqDiff, Nat.reduceAdd, Nat.reduceSub, Nat.reduceMul, Nat.reduceLeDiff, DH_app hd, DH_len, DH_len0, DH_get hd, DH_get0 hd, DH_set hd, DH_set0 hd, DH_setd, DH_die hd]
  have hbl := V.bears
  have hbp := bays_pos V
  have hll : (loadsOf h l).length = h.bears.length := by rw [loadsOf_len]; omega
  have hcl : (carOf h l (loOf h l)).length = h.bears.length := by rw [carOf_len]; omega
  have hch : (carOf h l (hiOf h l)).length = h.bears.length := by rw [carOf_len]; omega
  ((repeat refine W_seq ?_); refine W_region0 T_ok ?_)
  simp (maxSteps := 1000000) only [VL, VM, ↓Gd_none, ↓Gd_t, ↓Gd_f, reduceIte, reduceCtorEq, Int.reduceLE, Int.reduceLT, Int.reduceToNat, Int.reduceNeg, Nat.reduceLT, Nat.reduceEqDiff, Nat.reduceAdd, Nat.reduceSub, Nat.reduceMul, Nat.reduceLeDiff, hll, hcl]
  ((repeat refine W_seq ?_); refine W_cond (b := false) (by first | rfl | simp only [ev, get_cons, Nat.reduceEqDiff, if_true, if_false, reduceIte]) (fun h => by cases h) (fun _ => ?_))
  ((repeat refine W_seq ?_); refine W_skip ?_)
  simp (maxSteps := 1000000) only [VL, VM, ↓Gd_none, ↓Gd_t, ↓Gd_f, reduceIte, reduceCtorEq, Int.reduceLE, Int.reduceLT, Int.reduceToNat, Int.reduceNeg, Nat.reduceLT, Nat.reduceEqDiff, Nat.reduceAdd, Nat.reduceSub, Nat.reduceMul, Nat.reduceLeDiff]
  ((repeat refine W_seq ?_); refine W_region0 T_ok ?_)
  simp (maxSteps := 1000000) only [VL, VM, ↓Gd_none, ↓Gd_t, ↓Gd_f, reduceIte, reduceCtorEq, Int.reduceLE, Int.reduceLT, Int.reduceToNat, Int.reduceNeg, Nat.reduceLT, Nat.reduceEqDiff, Nat.reduceAdd, Nat.reduceSub, Nat.reduceMul, Nat.reduceLeDiff]
  ((repeat refine W_seq ?_); refine W_block ?_; (repeat refine W_seq ?_)); refine W_loopS (fun i : Nat => [(4, .ptr H0.length 0), (9, intsV (carOf h l (loOf h l))), (10, intsV (carOf h l (hiOf h l))), (11, spsV (loadsOf h l)), (13, vi (verdictOf h l)), (15, vi i)]) (fun _ => ⟨DH H0 d u2 [VObj.obj (hallC h), .clm l.length 1, .clm l.length 1], M.lg⟩) (fun i => h.bears.length - i) (fun i => i ≤ h.bears.length) 0 (Nat.zero_le _) ⟨rfl, rfl, rfl, rfl, rfl, rfl, trivial⟩ rfl ?_
  rintro i hi
  have hb6 := F.bears
  have k1 : -9223372036854775808 ≤ (i : Int) + 1 ∧ (i : Int) + 1 < 9223372036854775808 := by omega
  ((repeat refine W_seq ?_); refine W_region0 T_ok ?_)
  rcases Nat.lt_or_ge i h.bears.length with hlt | hge
  · have k2 : ((i : Int) < (h.bears.length : Int)) = True := eq_true (by omega)
    have hx := map_at (f := spP) (loadsOf_at (h := h) (l := l) (k := i) (by omega))
    have hy := map_at (f := intP) (carOf_at (h := h) (l := l) (ls := loOf h l) (k := i) (by omega))
    have hz := map_at (f := intP) (carOf_at (h := h) (l := l) (ls := hiOf h l) (k := i) (by omega))
    have heq : (loadAt h l i = ⟨carAt h l (loOf h l) i, carAt h l (hiOf h l) i⟩) = True := eq_true (loadAt_car h l i)
    have hne := v_neSpan (loadAt h l i) ⟨carAt h l (loOf h l) i, carAt h l (hiOf h l) i⟩
    simp only [heq, decide_true, Bool.not_true] at hne
    simp (maxSteps := 1000000) only [VL, VM, ↓Gd_none, ↓Gd_t, ↓Gd_f, reduceIte, reduceCtorEq, Int.reduceLE, Int.reduceLT, Int.reduceToNat, Int.reduceNeg, Nat.reduceLT, Nat.reduceEqDiff, Nat.reduceAdd, Nat.reduceSub, Nat.reduceMul, Nat.reduceLeDiff, hll, k2]
    ((repeat refine W_seq ?_); refine W_cond (b := true) (by first | rfl | simp only [ev, get_cons, Nat.reduceEqDiff, if_true, if_false, reduceIte]) (fun _ => ?_) (fun h => by cases h))
    ((repeat refine W_seq ?_); refine W_skip ?_)
    simp (maxSteps := 1000000) only [VL, VM, ↓Gd_none, ↓Gd_t, ↓Gd_f, reduceIte, reduceCtorEq, Int.reduceLE, Int.reduceLT, Int.reduceToNat, Int.reduceNeg, Nat.reduceLT, Nat.reduceEqDiff, Nat.reduceAdd, Nat.reduceSub, Nat.reduceMul, Nat.reduceLeDiff]
    ((repeat refine W_seq ?_); refine W_block ?_)
    (repeat refine W_seq ?_)
    refine W_drawP T_ok [] (by kernel_rfl) (by kernel_rfl) ?_
    generalize hi : mkPlan _ = infs
    cbv at hi
    subst hi
    simp (maxSteps := 1000000) only [VL, VM, ↓Gd_none, ↓Gd_t, ↓Gd_f, reduceIte, reduceCtorEq, Int.reduceLE, Int.reduceLT, Int.reduceToNat, Int.reduceNeg, Nat.reduceLT, Nat.reduceEqDiff, Nat.reduceAdd, Nat.reduceSub, Nat.reduceMul, Nat.reduceLeDiff, hx, hy, hz]
    apply call_d (f := 30) (fn := Try.f30) (by kernel_rfl) (by rfl)
    · exact spanc_v _ _ _
    simp (maxSteps := 1000000) only [VL, VM, ↓Gd_none, ↓Gd_t, ↓Gd_f, reduceIte, reduceCtorEq, Int.reduceLE, Int.reduceLT, Int.reduceToNat, Int.reduceNeg, Nat.reduceLT, Nat.reduceEqDiff, Nat.reduceAdd, Nat.reduceSub, Nat.reduceMul, Nat.reduceLeDiff, hx, hy, hz, hne]
    ((repeat refine W_seq ?_); refine W_cond (b := false) (by first | rfl | simp only [ev, get_cons, Nat.reduceEqDiff, if_true, if_false, reduceIte]) (fun h => by cases h) (fun _ => ?_))
    ((repeat refine W_seq ?_); refine W_skip ?_)
    simp (maxSteps := 1000000) only [VL, VM, ↓Gd_none, ↓Gd_t, ↓Gd_f, reduceIte, reduceCtorEq, Int.reduceLE, Int.reduceLT, Int.reduceToNat, Int.reduceNeg, Nat.reduceLT, Nat.reduceEqDiff, Nat.reduceAdd, Nat.reduceSub, Nat.reduceMul, Nat.reduceLeDiff]
    ((repeat refine W_seq ?_); refine W_region0 T_ok ?_)
    simp (maxSteps := 1000000) only [VL, VM, ↓Gd_none, ↓Gd_t, ↓Gd_f, reduceIte, reduceCtorEq, Int.reduceLE, Int.reduceLT, Int.reduceToNat, Int.reduceNeg, Nat.reduceLT, Nat.reduceEqDiff, Nat.reduceAdd, Nat.reduceSub, Nat.reduceMul, Nat.reduceLeDiff, k1]
    refine LoopK.mk (i + 1) (by omega) (by omega) ⟨rfl, rfl, rfl, rfl, rfl, rfl, trivial⟩ rfl
  have k2 : ((i : Int) < (h.bears.length : Int)) = False := eq_false (by omega)
  simp (maxSteps := 1000000) only [VL, VM, ↓Gd_none, ↓Gd_t, ↓Gd_f, reduceIte, reduceCtorEq, Int.reduceLE, Int.reduceLT, Int.reduceToNat, Int.reduceNeg, Nat.reduceLT, Nat.reduceEqDiff, Nat.reduceAdd, Nat.reduceSub, Nat.reduceMul, Nat.reduceLeDiff, hll, k2]
  ((repeat refine W_seq ?_); refine W_cond (b := false) (by first | rfl | simp only [ev, get_cons, Nat.reduceEqDiff, if_true, if_false, reduceIte]) (fun h => by cases h) (fun _ => ?_))
  ((repeat refine W_seq ?_); refine W_exit ?_)
  simp (maxSteps := 1000000) only [VL, VM, ↓Gd_none, ↓Gd_t, ↓Gd_f, reduceIte, reduceCtorEq, Int.reduceLE, Int.reduceLT, Int.reduceToNat, Int.reduceNeg, Nat.reduceLT, Nat.reduceEqDiff, Nat.reduceAdd, Nat.reduceSub, Nat.reduceMul, Nat.reduceLeDiff]
  ((repeat refine W_seq ?_); refine W_region0 T_ok ?_)
  simp (maxSteps := 1000000) only [VL, VM, ↓Gd_none, ↓Gd_t, ↓Gd_f, reduceIte, reduceCtorEq, Int.reduceLE, Int.reduceLT, Int.reduceToNat, Int.reduceNeg, Nat.reduceLT, Nat.reduceEqDiff, Nat.reduceAdd, Nat.reduceSub, Nat.reduceMul, Nat.reduceLeDiff, DH_app hd, DH_len, DH_len0, DH_get hd, DH_get0 hd, DH_set hd, DH_set0 hd, DH_setd, DH_die hd]
  apply call_eq (f := 29) (fn := Try.f29) (by kernel_rfl) (by rfl)
  · exact borne_v h (carOf h l (hiOf h l)) _ (by omega) hb6
  rw [hch, bornB_hi V]
  have c1 : (decide (verdictOf h l = 1) == fitsHi h l h.bears.length) = true := by
    unfold verdictOf
    cases fitsHi h l h.bears.length <;> cases fitsLo h l h.bears.length <;> rfl
  have c2 : (decide (verdictOf h l = 2) == !fitsLo h l h.bears.length) = true := by
    have hfl := fits_le V hg h.bears.length
    unfold verdictOf
    cases hq : fitsHi h l h.bears.length with
    | true => rw [hfl hq]; rfl
    | false => cases fitsLo h l h.bears.length <;> rfl
  simp (maxSteps := 1000000) only [VL, VM, ↓Gd_none, ↓Gd_t, ↓Gd_f, reduceIte, reduceCtorEq, Int.reduceLE, Int.reduceLT, Int.reduceToNat, Int.reduceNeg, Nat.reduceLT, Nat.reduceEqDiff, Nat.reduceAdd, Nat.reduceSub, Nat.reduceMul, Nat.reduceLeDiff, DH_app hd, DH_len, DH_len0, DH_get hd, DH_get0 hd, DH_set hd, DH_set0 hd, DH_setd, DH_die hd, v_eqBool, c1]
  apply call_eq (f := 29) (fn := Try.f29) (by kernel_rfl) (by rfl)
  · exact borne_v h (carOf h l (loOf h l)) _ (by omega) hb6
  rw [hcl, bornB_lo V]
  simp (maxSteps := 1000000) only [VL, VM, ↓Gd_none, ↓Gd_t, ↓Gd_f, reduceIte, reduceCtorEq, Int.reduceLE, Int.reduceLT, Int.reduceToNat, Int.reduceNeg, Nat.reduceLT, Nat.reduceEqDiff, Nat.reduceAdd, Nat.reduceSub, Nat.reduceMul, Nat.reduceLeDiff, DH_app hd, DH_len, DH_len0, DH_get hd, DH_get0 hd, DH_set hd, DH_set0 hd, DH_setd, DH_die hd, v_eqBool, v_not, c2]
  apply call_eq (f := 15) (fn := Try.f15) (by kernel_rfl) (by rfl)
  · exact awake _
  simp (maxSteps := 1000000) only [VL, VM, ↓Gd_none, ↓Gd_t, ↓Gd_f, reduceIte, reduceCtorEq, Int.reduceLE, Int.reduceLT, Int.reduceToNat, Int.reduceNeg, Nat.reduceLT, Nat.reduceEqDiff, Nat.reduceAdd, Nat.reduceSub, Nat.reduceMul, Nat.reduceLeDiff]
  rw [tail]
  (repeat refine W_seq ?_)
  refine W_ret ?_
  try simp only [thenQ, blockQ]
  refine own_ret1 rfl ?_ (by rfl)
  simp only [get_cons, frz, vtup, Nat.reduceEqDiff, if_true, if_false, reduceIte]
end Go.Proofs.Ytijcmgfblpokhaa.Vm

/- The law of true loads, on values. (Vm) -/
namespace Go.Proofs.Ytijcmgfblpokhaa.Vm
open Go Go.Proofs
theorem holds_v (x : Sp) (n : Int) (M : Mem) : VC Try.prog 28 [spV x, vi n] M (fun r M' => M' = M ∧ r = vb (decide (x.lo ≤ n ∧ n ≤ x.hi))) := by
  refine VC_own' T_ok (f := 28) (fn := Try.f28) (by kernel_rfl) rfl Try.ntmps28 (by rfl) (by rfl) ?_
  ((repeat refine W_seq ?_); refine W_region0 T_ok ?_)
  simp (maxSteps := 1000000) only [VL, VM, ↓Gd_none, ↓Gd_t, ↓Gd_f, reduceIte, reduceCtorEq, Int.reduceLE, Int.reduceLT, Int.reduceToNat, Int.reduceNeg, Nat.reduceLT, Nat.reduceEqDiff, Nat.reduceAdd, Nat.reduceSub, Nat.reduceMul, Nat.reduceLeDiff]
  by_cases h1 : x.lo ≤ n
  · by_cases h2 : n ≤ x.hi
    · have e1 := eq_true h1
      have e2 := eq_true h2
      ((repeat refine W_seq ?_); refine W_region0 T_ok ?_)
      simp (maxSteps := 1000000) only [VL, VM, ↓Gd_none, ↓Gd_t, ↓Gd_f, reduceIte, reduceCtorEq, Int.reduceLE, Int.reduceLT, Int.reduceToNat, Int.reduceNeg, Nat.reduceLT, Nat.reduceEqDiff, Nat.reduceAdd, Nat.reduceSub, Nat.reduceMul, Nat.reduceLeDiff, e1, e2]
      (repeat refine W_seq ?_)
      refine W_ret ?_
      try simp only [thenQ, blockQ]
      refine own_ret1 rfl ?_ (by rfl)
      simp only [get_cons, frz, vtup, Nat.reduceEqDiff, if_true, if_false, reduceIte]
    · have e1 := eq_true h1
      have e2 := eq_false h2
      ((repeat refine W_seq ?_); refine W_region0 T_ok ?_)
      simp (maxSteps := 1000000) only [VL, VM, ↓Gd_none, ↓Gd_t, ↓Gd_f, reduceIte, reduceCtorEq, Int.reduceLE, Int.reduceLT, Int.reduceToNat, Int.reduceNeg, Nat.reduceLT, Nat.reduceEqDiff, Nat.reduceAdd, Nat.reduceSub, Nat.reduceMul, Nat.reduceLeDiff, e1, e2]
      (repeat refine W_seq ?_)
      refine W_ret ?_
      try simp only [thenQ, blockQ]
      refine own_ret1 rfl ?_ (by rfl)
      simp only [get_cons, frz, vtup, Nat.reduceEqDiff, if_true, if_false, reduceIte]
  · have e1 := eq_false h1
    ((repeat refine W_seq ?_); refine W_region0 T_ok ?_)
    simp (maxSteps := 1000000) only [VL, VM, ↓Gd_none, ↓Gd_t, ↓Gd_f, reduceIte, reduceCtorEq, Int.reduceLE, Int.reduceLT, Int.reduceToNat, Int.reduceNeg, Nat.reduceLT, Nat.reduceEqDiff, Nat.reduceAdd, Nat.reduceSub, Nat.reduceMul, Nat.reduceLeDiff, e1]
    (repeat refine W_seq ?_)
    refine W_ret ?_
    try simp only [thenQ, blockQ]
    refine own_ret1 rfl ?_ (by rfl)
    simp only [get_cons, frz, vtup, Nat.reduceEqDiff, if_true, if_false, reduceIte]
theorem true_c {H0 : List VObj} {d : Nat} (hd : d < H0.length) {L : List VObj} (u : Int) (x : Sp) (lg : List (Nat × Nat)) (h0 : 0 ≤ x.lo) (h1 : x.lo ≤ x.hi) (h2 : x.hi ≤ 100000000) : VC Try.prog 74 [.ptr d 0, spV x] ⟨DH H0 d u L, lg⟩ (fun r M' => M' = ⟨DH H0 d (trueU u x) L, lg⟩ ∧ r = vi (trueF u x)) := by
  rw [DH_base, DH_base (u := trueU u x)]
  exact true_v (by rw [List.length_append]; omega) u x lg h0 h1 h2
/-- the span of a put's load -/
def putSp (h : Ha) (p : Pu) : Sp := ⟨(kAt h p.kind).lo, (kAt h p.kind).hi⟩
/-- true loads, drawn -/
def tlSt (h : Ha) (l : List Pu) (u : Int) : Nat → Int × List Int
  | 0 => (u, [])
  | i + 1 => (trueU (tlSt h l u i).1 (putSp h (l.getD i ⟨⟨0, 0⟩, 0⟩)), (tlSt h l u i).2 ++ [trueF (tlSt h l u i).1 (putSp h (l.getD i ⟨⟨0, 0⟩, 0⟩))])
def tlF (h : Ha) (l : List Pu) (u : Int) : List Int := (tlSt h l u l.length).2
def tlU (h : Ha) (l : List Pu) (u : Int) : Int := (tlSt h l u l.length).1
theorem tlSt_len (h : Ha) (l : List Pu) (u : Int) : ∀ i, (tlSt h l u i).2.length = i
  | 0 => rfl
  | i + 1 => by simp [tlSt, tlSt_len h l u i]
theorem putSp_ok {h : Ha} {p : Pu} (V : VH h) (hg : GoodP h p) : 0 ≤ (putSp h p).lo ∧ (putSp h p).lo ≤ (putSp h p).hi ∧ (putSp h p).hi ≤ 1000000 := by
  obtain ⟨p1, p2, p3, p4, p5, p6⟩ := hg.bounds V
  have kv := kAt_VK V p5 p6
  have r1 := kv.lo0
  have r2 := kv.loHi
  have r3 := kv.hi1
  simp only [putSp]
  omega
theorem tlSt_at {h : Ha} {l : List Pu} {u : Int} (V : VH h) (hg : ∀ o ∈ l, GoodP h o) : ∀ n, n ≤ l.length → ∀ (i : Nat) (p : Pu) (t : Int), l[i]? = some p → (tlSt h l u n).2[i]? = some t → (putSp h p).lo ≤ t ∧ t ≤ (putSp h p).hi
  | 0, _, i, p, t, hp, ht => by simp [tlSt] at ht
  | n + 1, hn, i, p, t, hp, ht => by
    simp only [tlSt] at ht
    have hlen := tlSt_len h l u n
    rcases Nat.lt_or_ge i n with hlt | hge
    · rw [List.getElem?_append_left (by omega)] at ht
      exact tlSt_at V hg n (by omega) i p t hp ht
    · rw [List.getElem?_append_right (by omega), hlen] at ht
      have h0 : i - n = 0 := by
        have := (List.getElem?_eq_some_iff.1 ht).1
        simp at this; omega
      rw [h0] at ht
      cases ht
      obtain rfl : i = n := by omega
      rw [List.getD, hp, Option.getD_some]
      have hs := putSp_ok V (hg p (List.mem_of_getElem? hp))
      exact trueF_range hs.2.1 (by omega)
theorem trueLoads_v {H0 : List VObj} {d : Nat} (hd : d < H0.length) (u : Int) (lg : List (Nat × Nat)) (h : Ha) (l : List Pu) (V : VH h) (hg : ∀ o ∈ l, GoodP h o) (hl : l.length ≤ 500) :
    VC Try.prog 27 [.ptr d 0, hallV h, pusV l] ⟨DH H0 d u [], lg⟩ (fun r M' => M' = ⟨DH H0 d (tlU h l u) [], lg⟩ ∧ r = intsV (tlF h l u)) := by
  refine VC_own' T_ok (f := 27) (fn := Try.f27) (by kernel_rfl) rfl Try.ntmps27 (by rfl) (by rfl) ?_
  ((repeat refine W_seq ?_); refine W_region0 T_ok ?_)
  simp (maxSteps := 1000000) only [VL, VM, ↓Gd_none, ↓Gd_t, ↓Gd_f, reduceIte, reduceCtorEq, Int.reduceLE, Int.reduceLT, Int.reduceToNat, Int.reduceNeg, Nat.reduceLT, Nat.reduceEqDiff, Nat.reduceAdd, Nat.reduceSub, Nat.reduceMul, Nat.reduceLeDiff, DH_app hd, DH_len, DH_len0, DH_get hd, DH_get0 hd, DH_set hd, DH_set0 hd, DH_setd, DH_die hd]
  refine W_tok (t := 6) (k := 1) rfl ?_
  ((repeat refine W_seq ?_); refine W_region0 T_ok ?_)
  simp (maxSteps := 1000000) only [VL, VM, ↓Gd_none, ↓Gd_t, ↓Gd_f, reduceIte, reduceCtorEq, Int.reduceLE, Int.reduceLT, Int.reduceToNat, Int.reduceNeg, Nat.reduceLT, Nat.reduceEqDiff, Nat.reduceAdd, Nat.reduceSub, Nat.reduceMul, Nat.reduceLeDiff, DH_app hd, DH_len, DH_len0, DH_get hd, DH_get0 hd, DH_set hd, DH_set0 hd, DH_setd, DH_die hd]
  refine W_tok (t := 7) (k := 1) rfl ?_
  ((repeat refine W_seq ?_); refine W_region0 T_ok ?_)
  simp (maxSteps := 1000000) only [VL, VM, ↓Gd_none, ↓Gd_t, ↓Gd_f, reduceIte, reduceCtorEq, Int.reduceLE, Int.reduceLT, Int.reduceToNat, Int.reduceNeg, Nat.reduceLT, Nat.reduceEqDiff, Nat.reduceAdd, Nat.reduceSub, Nat.reduceMul, Nat.reduceLeDiff, DH_app hd, DH_len, DH_len0, DH_get hd, DH_get0 hd, DH_set hd, DH_set0 hd, DH_setd, DH_die hd]
  ((repeat refine W_seq ?_); refine W_block ?_; (repeat refine W_seq ?_)); refine W_loopS (fun i : Nat => [(0, .ptr d 0), (2, pusV l), (4, .ptr H0.length 0), (7, .so (H0.length + 2) 1 ((tlSt h l u i).2.map intP)), (8, vi i)]) (fun i => ⟨DH H0 d (tlSt h l u i).1 [VObj.obj (hallC h), .clm 0 1, .clm i 1], lg⟩) (fun i => l.length - i) (fun i => i ≤ l.length) 0 (Nat.zero_le _) ⟨rfl, rfl, rfl, rfl, rfl, trivial⟩ rfl ?_
  rintro i hi
  have k1 : -9223372036854775808 ≤ (i : Int) + 1 ∧ (i : Int) + 1 < 9223372036854775808 := by omega
  ((repeat refine W_seq ?_); refine W_region0 T_ok ?_)
  rcases Nat.lt_or_ge i l.length with hlt | hge
  · have k2 : ((i : Int) < (l.length : Int)) = True := eq_true (by omega)
    have hx : l[i]? = some l[i] := List.getElem?_eq_getElem hlt
    have hx' := map_at (f := puP) hx
    have hmem := List.getElem_mem hlt
    generalize hc : l[i] = p at hx hx' hmem
    obtain ⟨p1, p2, p3, p4, p5, p6⟩ := (hg p hmem).bounds V
    have kp := map_at (f := kiP) (kAt_some p5 p6)
    have hs := putSp_ok V (hg p hmem)
    have q1 : ((i + 1) * 8 ≤ 140737488355328) = True := eq_true (by omega)
    have e1 := tlSt_len h l u i
    have s1 : tlSt h l u (i + 1) = (trueU (tlSt h l u i).1 (putSp h p), (tlSt h l u i).2 ++ [trueF (tlSt h l u i).1 (putSp h p)]) := by
      rw [tlSt, List.getD, hx]
      rfl
    generalize tlSt h l u i = s at e1 s1
    obtain ⟨v, ts⟩ := s
    simp only at e1 s1
    simp (maxSteps := 1000000) only [VL, VM, ↓Gd_none, ↓Gd_t, ↓Gd_f, reduceIte, reduceCtorEq, Int.reduceLE, Int.reduceLT, Int.reduceToNat, Int.reduceNeg, Nat.reduceLT, Nat.reduceEqDiff, Nat.reduceAdd, Nat.reduceSub, Nat.reduceMul, Nat.reduceLeDiff, k2]
    ((repeat refine W_seq ?_); refine W_cond (b := true) (by first | rfl | simp only [ev, get_cons, Nat.reduceEqDiff, if_true, if_false, reduceIte]) (fun _ => ?_) (fun h => by cases h))
    ((repeat refine W_seq ?_); refine W_skip ?_)
    simp (maxSteps := 1000000) only [VL, VM, ↓Gd_none, ↓Gd_t, ↓Gd_f, reduceIte, reduceCtorEq, Int.reduceLE, Int.reduceLT, Int.reduceToNat, Int.reduceNeg, Nat.reduceLT, Nat.reduceEqDiff, Nat.reduceAdd, Nat.reduceSub, Nat.reduceMul, Nat.reduceLeDiff]
    ((repeat refine W_seq ?_); refine W_block ?_)
    (repeat refine W_seq ?_)
    refine W_drawP T_ok [] (by kernel_rfl) (by kernel_rfl) ?_
    generalize hi : mkPlan _ = infs
    cbv at hi
    subst hi
    simp (maxSteps := 1000000) only [VL, VM, ↓Gd_none, ↓Gd_t, ↓Gd_f, reduceIte, reduceCtorEq, Int.reduceLE, Int.reduceLT, Int.reduceToNat, Int.reduceNeg, Nat.reduceLT, Nat.reduceEqDiff, Nat.reduceAdd, Nat.reduceSub, Nat.reduceMul, Nat.reduceLeDiff, DH_app hd, DH_len, DH_len0, DH_get hd, DH_get0 hd, DH_set hd, DH_set0 hd, DH_setd, DH_die hd, hx', p5, kp]
    apply call_d (f := 74) (fn := Try.f74) (by kernel_rfl) (by rfl)
    · exact true_c hd v (putSp h p) lg hs.1 hs.2.1 (by omega)
    simp (maxSteps := 1000000) only [VL, VM, ↓Gd_none, ↓Gd_t, ↓Gd_f, reduceIte, reduceCtorEq, Int.reduceLE, Int.reduceLT, Int.reduceToNat, Int.reduceNeg, Nat.reduceLT, Nat.reduceEqDiff, Nat.reduceAdd, Nat.reduceSub, Nat.reduceMul, Nat.reduceLeDiff, DH_app hd, DH_len, DH_len0, DH_get hd, DH_get0 hd, DH_set hd, DH_set0 hd, DH_setd, DH_die hd, hx', p5, kp, e1, q1]
    ((repeat refine W_seq ?_); refine W_region0 T_ok ?_)
    simp (maxSteps := 1000000) only [VL, VM, ↓Gd_none, ↓Gd_t, ↓Gd_f, reduceIte, reduceCtorEq, Int.reduceLE, Int.reduceLT, Int.reduceToNat, Int.reduceNeg, Nat.reduceLT, Nat.reduceEqDiff, Nat.reduceAdd, Nat.reduceSub, Nat.reduceMul, Nat.reduceLeDiff, k1]
    refine LoopK.mk (i + 1) (by omega) (by omega) ⟨rfl, rfl, rfl, ?_, rfl, trivial⟩ ?_
    · rw [s1]; simp [get_cons]
    · rw [s1]
  have k2 : ((i : Int) < (l.length : Int)) = False := eq_false (by omega)
  obtain rfl : i = l.length := by omega
  simp (maxSteps := 1000000) only [VL, VM, ↓Gd_none, ↓Gd_t, ↓Gd_f, reduceIte, reduceCtorEq, Int.reduceLE, Int.reduceLT, Int.reduceToNat, Int.reduceNeg, Nat.reduceLT, Nat.reduceEqDiff, Nat.reduceAdd, Nat.reduceSub, Nat.reduceMul, Nat.reduceLeDiff, k2]
  ((repeat refine W_seq ?_); refine W_cond (b := false) (by first | rfl | simp only [ev, get_cons, Nat.reduceEqDiff, if_true, if_false, reduceIte]) (fun h => by cases h) (fun _ => ?_))
  ((repeat refine W_seq ?_); refine W_exit ?_)
  simp (maxSteps := 1000000) only [VL, VM, ↓Gd_none, ↓Gd_t, ↓Gd_f, reduceIte, reduceCtorEq, Int.reduceLE, Int.reduceLT, Int.reduceToNat, Int.reduceNeg, Nat.reduceLT, Nat.reduceEqDiff, Nat.reduceAdd, Nat.reduceSub, Nat.reduceMul, Nat.reduceLeDiff]
  ((repeat refine W_seq ?_); refine W_region0 T_ok ?_)
  simp (maxSteps := 1000000) only [VL, VM, ↓Gd_none, ↓Gd_t, ↓Gd_f, reduceIte, reduceCtorEq, Int.reduceLE, Int.reduceLT, Int.reduceToNat, Int.reduceNeg, Nat.reduceLT, Nat.reduceEqDiff, Nat.reduceAdd, Nat.reduceSub, Nat.reduceMul, Nat.reduceLeDiff]
  (repeat refine W_seq ?_)
  refine W_ret ?_
  try simp only [thenQ, blockQ]
  refine own_retD hd rfl ?_ (by rfl)
  rfl
/-- more carried, where each carries more -/
theorem carAt_mono {h : Ha} : ∀ {l : List Pu} {ls ms : List Int} (b : Nat), ls.length = ms.length → (∀ i x y, i < l.length → ls[i]? = some x → ms[i]? = some y → x ≤ y) → carAt h l ls b ≤ carAt h l ms b
  | [], ls, ms, b, _, _ => by simp [carAt]
  | p :: l, [], [], b, _, _ => by simp [carAt]
  | p :: l, [], y :: ms, b, hl, _ => by simp at hl
  | p :: l, x :: ls, [], b, hl, _ => by simp at hl
  | p :: l, x :: ls, y :: ms, b, hl, hx => by
    have ih := carAt_mono (h := h) (l := l) (ls := ls) (ms := ms) b (by simpa using hl) (fun i x y hi h1 h2 => hx (i + 1) x y (by simp; omega) (by simpa using h1) (by simpa using h2))
    have h0 := hx 0 x y (by simp) rfl rfl
    simp only [carAt, List.zip_cons_cons, List.filter_cons] at ih ⊢
    split
    · simp only [List.map_cons, List.sum_cons]; omega
    · exact ih
theorem bornB_mono {h : Ha} {l : List Pu} {ls ms : List Int} {k : Nat} (hk : (k : Int) ≤ baysOf h) (hm : ∀ b, carAt h l ls b ≤ carAt h l ms b) (hb : bornB h (carOf h l ms) k = true) : bornB h (carOf h l ls) k = true := by
  unfold bornB at *
  rw [List.all_eq_true] at *
  intro i hi
  have h1 := hb i hi
  have hi := List.mem_range.1 hi
  have h2 := hm i
  simp only [decide_eq_true_eq] at *
  rw [List.getD, carOf_at (by omega), Option.getD_some] at *
  omega
theorem trueLoads_c {H0 : List VObj} {d : Nat} (hd : d < H0.length) {L : List VObj} (u : Int) (lg : List (Nat × Nat)) (h : Ha) (l : List Pu) (V : VH h) (hg : ∀ o ∈ l, GoodP h o) (hl : l.length ≤ 500) :
    VC Try.prog 27 [.ptr d 0, hallV h, pusV l] ⟨DH H0 d u L, lg⟩ (fun r M' => M' = ⟨DH H0 d (tlU h l u) L, lg⟩ ∧ r = intsV (tlF h l u)) := by
  rw [DH_base, DH_base (u := tlU h l u)]
  exact trueLoads_v (by rw [List.length_append]; omega) u lg h l V hg hl
theorem true_law_v (awake : ∀ M, VC Try.prog 15 [] M (fun r M' => M' = M ∧ r = vb true)) (xs : List Int) (M : Mem) (hl : xs.length ≤ maxLen) : VC Try.prog 4 [intsV xs] M (fun r M' => M' = M ∧ r = vb true) := by
  refine VC_own' T_ok (f := 4) (fn := Try.f4) (by kernel_rfl) rfl Try.ntmps4 (by rfl) (by rfl) ?_
  ((repeat refine W_seq ?_); refine W_region0 T_ok ?_)
  simp (maxSteps := 1000000) only [VL, VM, ↓Gd_none, ↓Gd_t, ↓Gd_f, reduceIte, reduceCtorEq, Int.reduceLE, Int.reduceLT, Int.reduceToNat, Int.reduceNeg, Nat.reduceLT, Nat.reduceEqDiff, Nat.reduceAdd, Nat.reduceSub, Nat.reduceMul, Nat.reduceLeDiff]
  ((repeat refine W_seq ?_); refine W_region0 T_ok ?_)
  simp (maxSteps := 1000000) only [VL, VM, ↓Gd_none, ↓Gd_t, ↓Gd_f, reduceIte, reduceCtorEq, Int.reduceLE, Int.reduceLT, Int.reduceToNat, Int.reduceNeg, Nat.reduceLT, Nat.reduceEqDiff, Nat.reduceAdd, Nat.reduceSub, Nat.reduceMul, Nat.reduceLeDiff]
  apply call_eq (f := 17) (fn := Try.f17) (by kernel_rfl) (by rfl)
  · exact dieOf_v xs M hl
  obtain ⟨H0, hH0⟩ : ∃ H0, H0 = M.H ++ [VObj.dead] := ⟨_, rfl⟩
  obtain ⟨d, hdd⟩ : ∃ d, d = M.H.length := ⟨_, rfl⟩
  have hd : d < H0.length := by rw [hH0, hdd]; simp
  rw [← hH0, ← hdd]
  have tail : ∀ u L, DH H0 d u L = M.H ++ (.obj [uv u] :: L) := fun u L => by rw [hH0, hdd]; exact DH_tail M u L
  generalize dieU xs = u0
  simp (maxSteps := 1000000) only [VL, VM, ↓Gd_none, ↓Gd_t, ↓Gd_f, reduceIte, reduceCtorEq, Int.reduceLE, Int.reduceLT, Int.reduceToNat, Int.reduceNeg, Nat.reduceLT, Nat.reduceEqDiff, Nat.reduceAdd, Nat.reduceSub, Nat.reduceMul, Nat.reduceLeDiff]
  ((repeat refine W_seq ?_); refine W_region0 T_ok ?_)
  simp (maxSteps := 1000000) only [VL, VM, ↓Gd_none, ↓Gd_t, ↓Gd_f, reduceIte, reduceCtorEq, Int.reduceLE, Int.reduceLT, Int.reduceToNat, Int.reduceNeg, Nat.reduceLT, Nat.reduceEqDiff, Nat.reduceAdd, Nat.reduceSub, Nat.reduceMul, Nat.reduceLeDiff]
  refine fn_call (f := 16) (fn := Try.f16) (by kernel_rfl) (by rfl) ?_
  refine (hallOf_v hd u0 M.lg 5 3 3 (by omega) (by omega) (by omega)).mono ?_
  rintro _ _ ⟨h, u1, wd, dp, rfl, rfl, hG, hW, hD, hN⟩
  have hv := hG.ok
  have V := VH.of hv
  have F := hG.fin
  simp (maxSteps := 1000000) only [VL, VM, ↓Gd_none, ↓Gd_t, ↓Gd_f, reduceIte, reduceCtorEq, Int.reduceLE, Int.reduceLT, Int.reduceToNat, Int.reduceNeg, Nat.reduceLT, Nat.reduceEqDiff, Nat.reduceAdd, Nat.reduceSub, Nat.reduceMul, Nat.reduceLeDiff, DH_app hd, DH_len, DH_len0, DH_get hd, DH_get0 hd, DH_set hd, DH_set0 hd, DH_setd, DH_die hd]
  ((repeat refine W_seq ?_); refine W_region0 T_ok ?_)
  simp (maxSteps := 1000000) only [VL, VM, ↓Gd_none, ↓Gd_t, ↓Gd_f, reduceIte, reduceCtorEq, Int.reduceLE, Int.reduceLT, Int.reduceToNat, Int.reduceNeg, Nat.reduceLT, Nat.reduceEqDiff, Nat.reduceAdd, Nat.reduceSub, Nat.reduceMul, Nat.reduceLeDiff, DH_app hd, DH_len, DH_len0, DH_get hd, DH_get0 hd, DH_set hd, DH_set0 hd, DH_setd, DH_die hd]
  refine fn_call (f := 23) (fn := Try.f23) (by kernel_rfl) (by rfl) ?_
  rw [DH_base]
  refine (layoutOf_v (by rw [List.length_append]; omega) u1 M.lg h 8 V F (by omega) hv).mono ?_
  rintro _ _ ⟨l, u2, rfl, rfl, hle, hlm⟩
  rw [← DH_base]
  have hg := lay_good hle
  have hlen := lay_len hle
  have hle2 : layoutErr h l = 0 := layout_ok.2 ⟨hv, hle⟩
  simp (maxSteps := 1000000) only [VL, VM, ↓Gd_none, ↓Gd_t, ↓Gd_f, reduceIte, reduceCtorEq, Int.reduceLE, Int.reduceLT, Int.reduceToNat, Int.reduceNeg, Nat.reduceLT, Nat.reduceEqDiff, Nat.reduceAdd, Nat.reduceSub, Nat.reduceMul, Nat.reduceLeDiff]
  have hbl := V.bears
  have hbp := bays_pos V
  have hb6 := F.bears
  have hll : (loadsOf h l).length = h.bears.length := by rw [loadsOf_len]; omega
  ((repeat refine W_seq ?_); refine W_region0 T_ok ?_)
  simp (maxSteps := 1000000) only [VL, VM, ↓Gd_none, ↓Gd_t, ↓Gd_f, reduceIte, reduceCtorEq, Int.reduceLE, Int.reduceLT, Int.reduceToNat, Int.reduceNeg, Nat.reduceLT, Nat.reduceEqDiff, Nat.reduceAdd, Nat.reduceSub, Nat.reduceMul, Nat.reduceLeDiff, DH_app hd, DH_len, DH_len0, DH_get hd, DH_get0 hd, DH_set hd, DH_set0 hd, DH_setd, DH_die hd]
  apply call_eq (f := 24) (fn := Try.f24) (by kernel_rfl) (by rfl)
  · exact Loads_vm h l _ F (by omega)
  rw [show loadsR h l = spsV (loadsOf h l) from if_pos hle2, hle2]
  simp (maxSteps := 1000000) only [VL, VM, ↓Gd_none, ↓Gd_t, ↓Gd_f, reduceIte, reduceCtorEq, Int.reduceLE, Int.reduceLT, Int.reduceToNat, Int.reduceNeg, Nat.reduceLT, Nat.reduceEqDiff, Nat.reduceAdd, Nat.reduceSub, Nat.reduceMul, Nat.reduceLeDiff, DH_app hd, DH_len, DH_len0, DH_get hd, DH_get0 hd, DH_set hd, DH_set0 hd, DH_setd, DH_die hd]
  ((repeat refine W_seq ?_); refine W_region0 T_ok ?_)
  simp (maxSteps := 1000000) only [VL, VM, ↓Gd_none, ↓Gd_t, ↓Gd_f, reduceIte, reduceCtorEq, Int.reduceLE, Int.reduceLT, Int.reduceToNat, Int.reduceNeg, Nat.reduceLT, Nat.reduceEqDiff, Nat.reduceAdd, Nat.reduceSub, Nat.reduceMul, Nat.reduceLeDiff, DH_app hd, DH_len, DH_len0, DH_get hd, DH_get0 hd, DH_set hd, DH_set0 hd, DH_setd, DH_die hd]
  apply call_eq (f := 25) (fn := Try.f25) (by kernel_rfl) (by rfl)
  · exact Bears_vm h l _ F (by omega)
  rw [show bearsOut h l = verdictOf h l from if_pos hle2, hle2]
  simp (maxSteps := 1000000) only [VL, VM, ↓Gd_none, ↓Gd_t, ↓Gd_f, reduceIte, reduceCtorEq, Int.reduceLE, Int.reduceLT, Int.reduceToNat, Int.reduceNeg, Nat.reduceLT, Nat.reduceEqDiff, Nat.reduceAdd, Nat.reduceSub, Nat.reduceMul, Nat.reduceLeDiff, DH_app hd, DH_len, DH_len0, DH_get hd, DH_get0 hd, DH_set hd, DH_set0 hd, DH_setd, DH_die hd]
  ((repeat refine W_seq ?_); refine W_region0 T_ok ?_)
  simp (maxSteps := 1000000) only [VL, VM, ↓Gd_none, ↓Gd_t, ↓Gd_f, reduceIte, reduceCtorEq, Int.reduceLE, Int.reduceLT, Int.reduceToNat, Int.reduceNeg, Nat.reduceLT, Nat.reduceEqDiff, Nat.reduceAdd, Nat.reduceSub, Nat.reduceMul, Nat.reduceLeDiff, DH_app hd, DH_len, DH_len0, DH_get hd, DH_get0 hd, DH_set hd, DH_set0 hd, DH_setd, DH_die hd, hll]
  ((repeat refine W_seq ?_); refine W_cond (b := false) (by first | rfl | simp only [ev, get_cons, Nat.reduceEqDiff, if_true, if_false, reduceIte]) (fun h => by cases h) (fun _ => ?_))
  ((repeat refine W_seq ?_); refine W_skip ?_)
  simp (maxSteps := 1000000) only [VL, VM, ↓Gd_none, ↓Gd_t, ↓Gd_f, reduceIte, reduceCtorEq, Int.reduceLE, Int.reduceLT, Int.reduceToNat, Int.reduceNeg, Nat.reduceLT, Nat.reduceEqDiff, Nat.reduceAdd, Nat.reduceSub, Nat.reduceMul, Nat.reduceLeDiff]
  ((repeat refine W_seq ?_); refine W_region0 T_ok ?_)
  simp (maxSteps := 1000000) only [VL, VM, ↓Gd_none, ↓Gd_t, ↓Gd_f, reduceIte, reduceCtorEq, Int.reduceLE, Int.reduceLT, Int.reduceToNat, Int.reduceNeg, Nat.reduceLT, Nat.reduceEqDiff, Nat.reduceAdd, Nat.reduceSub, Nat.reduceMul, Nat.reduceLeDiff, DH_app hd, DH_len, DH_len0, DH_get hd, DH_get0 hd, DH_set hd, DH_set0 hd, DH_setd, DH_die hd]
  ((repeat refine W_seq ?_); refine W_block ?_; (repeat refine W_seq ?_)); refine W_loopS (fun s : Nat × Int => [(3, .ptr d 0), (4, .ptr H0.length 0), (5, pusV l), (6, spsV (loadsOf h l)), (8, vi (verdictOf h l)), (10, vi s.1)]) (fun s => ⟨DH H0 d s.2 [VObj.obj (hallC h)], M.lg⟩) (fun s => 6 - s.1) (fun s => s.1 ≤ 6) (0, _) (Nat.zero_le _) ⟨rfl, rfl, rfl, rfl, rfl, rfl, trivial⟩ rfl ?_
  rintro ⟨i, v⟩ hi
  simp only at hi
  have k1 : -9223372036854775808 ≤ (i : Int) + 1 ∧ (i : Int) + 1 < 9223372036854775808 := by omega
  ((repeat refine W_seq ?_); refine W_region0 T_ok ?_)
  rcases Nat.lt_or_ge i 6 with hlt | hge
  rotate_left
  · have k2 : ((i : Int) < 6) = False := eq_false (by omega)
    simp (maxSteps := 1000000) only [VL, VM, ↓Gd_none, ↓Gd_t, ↓Gd_f, reduceIte, reduceCtorEq, Int.reduceLE, Int.reduceLT, Int.reduceToNat, Int.reduceNeg, Nat.reduceLT, Nat.reduceEqDiff, Nat.reduceAdd, Nat.reduceSub, Nat.reduceMul, Nat.reduceLeDiff, k2]
    ((repeat refine W_seq ?_); refine W_cond (b := false) (by first | rfl | simp only [ev, get_cons, Nat.reduceEqDiff, if_true, if_false, reduceIte]) (fun h => by cases h) (fun _ => ?_))
    ((repeat refine W_seq ?_); refine W_exit ?_)
    simp (maxSteps := 1000000) only [VL, VM, ↓Gd_none, ↓Gd_t, ↓Gd_f, reduceIte, reduceCtorEq, Int.reduceLE, Int.reduceLT, Int.reduceToNat, Int.reduceNeg, Nat.reduceLT, Nat.reduceEqDiff, Nat.reduceAdd, Nat.reduceSub, Nat.reduceMul, Nat.reduceLeDiff]
    ((repeat refine W_seq ?_); refine W_region0 T_ok ?_)
    simp (maxSteps := 1000000) only [VL, VM, ↓Gd_none, ↓Gd_t, ↓Gd_f, reduceIte, reduceCtorEq, Int.reduceLE, Int.reduceLT, Int.reduceToNat, Int.reduceNeg, Nat.reduceLT, Nat.reduceEqDiff, Nat.reduceAdd, Nat.reduceSub, Nat.reduceMul, Nat.reduceLeDiff]
    apply call_eq (f := 15) (fn := Try.f15) (by kernel_rfl) (by rfl)
    · exact awake _
    simp (maxSteps := 1000000) only [VL, VM, ↓Gd_none, ↓Gd_t, ↓Gd_f, reduceIte, reduceCtorEq, Int.reduceLE, Int.reduceLT, Int.reduceToNat, Int.reduceNeg, Nat.reduceLT, Nat.reduceEqDiff, Nat.reduceAdd, Nat.reduceSub, Nat.reduceMul, Nat.reduceLeDiff]
    rw [tail]
    (repeat refine W_seq ?_)
    refine W_ret ?_
    try simp only [thenQ, blockQ]
    refine own_ret1 rfl ?_ (by rfl)
    simp only [get_cons, frz, vtup, Nat.reduceEqDiff, if_true, if_false, reduceIte]
  have k2 : ((i : Int) < 6) = True := eq_true (by omega)
  have htl : (tlF h l v).length = l.length := tlSt_len h l v _
  have hat := tlSt_at (u := v) V hg l.length (Nat.le_refl _)
  have htb : ∀ y ∈ tlF h l v, 0 ≤ y ∧ y ≤ 1000000 := by
    intro y hy
    obtain ⟨j, hj⟩ := List.getElem?_of_mem hy
    have hjl : j < l.length := by rw [← htl]; exact (List.getElem?_eq_some_iff.1 hj).1
    have hb := hat j l[j] y (List.getElem?_eq_getElem hjl) hj
    have hs := putSp_ok V (hg l[j] (List.getElem_mem hjl))
    omega
  have mlo : ∀ b, carAt h l (loOf h l) b ≤ carAt h l (tlF h l v) b := fun b => carAt_mono b (by rw [htl]; simp [loOf]) (fun j x y hj h1 h2 => by
    have hb := hat j l[j] y (List.getElem?_eq_getElem hj) h2
    rw [loOf, List.getElem?_map, List.getElem?_eq_getElem hj] at h1
    cases h1
    exact hb.1)
  have mhi : ∀ b, carAt h l (tlF h l v) b ≤ carAt h l (hiOf h l) b := fun b => carAt_mono b (by rw [htl]; simp [hiOf]) (fun j x y hj h1 h2 => by
    have hb := hat j l[j] x (List.getElem?_eq_getElem hj) h1
    rw [hiOf, List.getElem?_map, List.getElem?_eq_getElem hj] at h2
    cases h2
    exact hb.2)
  have hct : (carOf h l (tlF h l v)).length = h.bears.length := by rw [carOf_len]; omega
  simp (maxSteps := 1000000) only [VL, VM, ↓Gd_none, ↓Gd_t, ↓Gd_f, reduceIte, reduceCtorEq, Int.reduceLE, Int.reduceLT, Int.reduceToNat, Int.reduceNeg, Nat.reduceLT, Nat.reduceEqDiff, Nat.reduceAdd, Nat.reduceSub, Nat.reduceMul, Nat.reduceLeDiff, k2]
  ((repeat refine W_seq ?_); refine W_cond (b := true) (by first | rfl | simp only [ev, get_cons, Nat.reduceEqDiff, if_true, if_false, reduceIte]) (fun _ => ?_) (fun h => by cases h))
  ((repeat refine W_seq ?_); refine W_skip ?_)
  simp (maxSteps := 1000000) only [VL, VM, ↓Gd_none, ↓Gd_t, ↓Gd_f, reduceIte, reduceCtorEq, Int.reduceLE, Int.reduceLT, Int.reduceToNat, Int.reduceNeg, Nat.reduceLT, Nat.reduceEqDiff, Nat.reduceAdd, Nat.reduceSub, Nat.reduceMul, Nat.reduceLeDiff]
  ((repeat refine W_seq ?_); refine W_block ?_)
  (repeat refine W_seq ?_)
  refine W_drawP T_ok [] (by kernel_rfl) (by kernel_rfl) ?_
  generalize hi : mkPlan _ = infs
  cbv at hi
  subst hi
  simp (maxSteps := 1000000) only [VL, VM, ↓Gd_none, ↓Gd_t, ↓Gd_f, reduceIte, reduceCtorEq, Int.reduceLE, Int.reduceLT, Int.reduceToNat, Int.reduceNeg, Nat.reduceLT, Nat.reduceEqDiff, Nat.reduceAdd, Nat.reduceSub, Nat.reduceMul, Nat.reduceLeDiff, DH_app hd, DH_len, DH_len0, DH_get hd, DH_get0 hd, DH_set hd, DH_set0 hd, DH_setd, DH_die hd]
  apply call_d (f := 27) (fn := Try.f27) (by kernel_rfl) (by rfl)
  · exact trueLoads_c hd v M.lg h l V hg (by omega)
  simp (maxSteps := 1000000) only [VL, VM, ↓Gd_none, ↓Gd_t, ↓Gd_f, reduceIte, reduceCtorEq, Int.reduceLE, Int.reduceLT, Int.reduceToNat, Int.reduceNeg, Nat.reduceLT, Nat.reduceEqDiff, Nat.reduceAdd, Nat.reduceSub, Nat.reduceMul, Nat.reduceLeDiff, DH_app hd, DH_len, DH_len0, DH_get hd, DH_get0 hd, DH_set hd, DH_set0 hd, DH_setd, DH_die hd]
  apply call_d (f := 26) (fn := Try.f26) (by kernel_rfl) (by rfl)
  · exact carried_v h l (tlF h l v) _ V hg (by omega) htl htb
  simp (maxSteps := 1000000) only [VL, VM, ↓Gd_none, ↓Gd_t, ↓Gd_f, reduceIte, reduceCtorEq, Int.reduceLE, Int.reduceLT, Int.reduceToNat, Int.reduceNeg, Nat.reduceLT, Nat.reduceEqDiff, Nat.reduceAdd, Nat.reduceSub, Nat.reduceMul, Nat.reduceLeDiff, DH_app hd, DH_len, DH_len0, DH_get hd, DH_get0 hd, DH_set hd, DH_set0 hd, DH_setd, DH_die hd]
  have hbl := V.bears
  have hbp := bays_pos V
  have hct : (carOf h l (tlF h l v)).length = h.bears.length := by rw [carOf_len]; omega
  have hll : (loadsOf h l).length = h.bears.length := by rw [loadsOf_len]; omega
  have ok1 : verdictOf h l = 1 → bornB h (carOf h l (tlF h l v)) h.bears.length = true := fun e => by
    refine bornB_mono (by omega) mhi ?_
    rw [bornB_hi V]
    unfold verdictOf at e
    cases hq : fitsHi h l h.bears.length with
    | true => rfl
    | false => rw [hq] at e; cases hq2 : fitsLo h l h.bears.length <;> rw [hq2] at e <;> simp at e
  have ok2 : verdictOf h l = 2 → bornB h (carOf h l (tlF h l v)) h.bears.length = false := fun e => by
    cases hq : bornB h (carOf h l (tlF h l v)) h.bears.length with
    | false => rfl
    | true =>
      have h1 := bornB_mono (ls := loOf h l) (by omega) mlo hq
      rw [bornB_lo V] at h1
      unfold verdictOf at e
      rw [h1] at e
      split at e <;> simp at e
  ((repeat refine W_seq ?_); refine W_region0 T_ok ?_)
  simp (maxSteps := 1000000) only [VL, VM, ↓Gd_none, ↓Gd_t, ↓Gd_f, reduceIte, reduceCtorEq, Int.reduceLE, Int.reduceLT, Int.reduceToNat, Int.reduceNeg, Nat.reduceLT, Nat.reduceEqDiff, Nat.reduceAdd, Nat.reduceSub, Nat.reduceMul, Nat.reduceLeDiff, DH_app hd, DH_len, DH_len0, DH_get hd, DH_get0 hd, DH_set hd, DH_set0 hd, DH_setd, DH_die hd]
  ((repeat refine W_seq ?_); refine W_block ?_; (repeat refine W_seq ?_)); refine W_loopS (fun j : Nat => [(3, .ptr d 0), (4, .ptr H0.length 0), (5, pusV l), (6, spsV (loadsOf h l)), (8, vi (verdictOf h l)), (10, vi i), (11, intsV (carOf h l (tlF h l v))), (12, vi j)]) (fun _ => ⟨DH H0 d (tlU h l v) [VObj.obj (hallC h)], M.lg⟩) (fun j => h.bears.length - j) (fun j => j ≤ h.bears.length) 0 (Nat.zero_le _) ⟨rfl, rfl, rfl, rfl, rfl, rfl, rfl, rfl, trivial⟩ rfl ?_
  rintro j hj
  have j1 : -9223372036854775808 ≤ (j : Int) + 1 ∧ (j : Int) + 1 < 9223372036854775808 := by omega
  ((repeat refine W_seq ?_); refine W_region0 T_ok ?_)
  rcases Nat.lt_or_ge j h.bears.length with jlt | jge
  · have j2 : ((j : Int) < (h.bears.length : Int)) = True := eq_true (by omega)
    have hx := map_at (f := spP) (loadsOf_at (h := h) (l := l) (k := j) (by omega))
    have hy := map_at (f := intP) (carOf_at (h := h) (l := l) (ls := tlF h l v) (k := j) (by omega))
    have hin : ((loadAt h l j).lo ≤ carAt h l (tlF h l v) j ∧ carAt h l (tlF h l v) j ≤ (loadAt h l j).hi) = True := eq_true (by
      rw [loadAt_car]
      exact ⟨mlo j, mhi j⟩)
    simp (maxSteps := 1000000) only [VL, VM, ↓Gd_none, ↓Gd_t, ↓Gd_f, reduceIte, reduceCtorEq, Int.reduceLE, Int.reduceLT, Int.reduceToNat, Int.reduceNeg, Nat.reduceLT, Nat.reduceEqDiff, Nat.reduceAdd, Nat.reduceSub, Nat.reduceMul, Nat.reduceLeDiff, hll, j2]
    ((repeat refine W_seq ?_); refine W_cond (b := true) (by first | rfl | simp only [ev, get_cons, Nat.reduceEqDiff, if_true, if_false, reduceIte]) (fun _ => ?_) (fun h => by cases h))
    ((repeat refine W_seq ?_); refine W_skip ?_)
    simp (maxSteps := 1000000) only [VL, VM, ↓Gd_none, ↓Gd_t, ↓Gd_f, reduceIte, reduceCtorEq, Int.reduceLE, Int.reduceLT, Int.reduceToNat, Int.reduceNeg, Nat.reduceLT, Nat.reduceEqDiff, Nat.reduceAdd, Nat.reduceSub, Nat.reduceMul, Nat.reduceLeDiff]
    ((repeat refine W_seq ?_); refine W_block ?_)
    (repeat refine W_seq ?_)
    refine W_drawP T_ok [] (by kernel_rfl) (by kernel_rfl) ?_
    generalize hi : mkPlan _ = infs
    cbv at hi
    subst hi
    simp (maxSteps := 1000000) only [VL, VM, ↓Gd_none, ↓Gd_t, ↓Gd_f, reduceIte, reduceCtorEq, Int.reduceLE, Int.reduceLT, Int.reduceToNat, Int.reduceNeg, Nat.reduceLT, Nat.reduceEqDiff, Nat.reduceAdd, Nat.reduceSub, Nat.reduceMul, Nat.reduceLeDiff, hx, hy]
    apply call_d (f := 28) (fn := Try.f28) (by kernel_rfl) (by rfl)
    · exact holds_v (loadAt h l j) (carAt h l (tlF h l v) j) _
    rw [show decide ((loadAt h l j).lo ≤ carAt h l (tlF h l v) j ∧ carAt h l (tlF h l v) j ≤ (loadAt h l j).hi) = true from decide_eq_true (of_eq_true hin)]
    simp (maxSteps := 1000000) only [VL, VM, ↓Gd_none, ↓Gd_t, ↓Gd_f, reduceIte, reduceCtorEq, Int.reduceLE, Int.reduceLT, Int.reduceToNat, Int.reduceNeg, Nat.reduceLT, Nat.reduceEqDiff, Nat.reduceAdd, Nat.reduceSub, Nat.reduceMul, Nat.reduceLeDiff, hx, hy]
    ((repeat refine W_seq ?_); refine W_cond (b := false) (by first | rfl | simp only [ev, get_cons, Nat.reduceEqDiff, if_true, if_false, reduceIte]) (fun h => by cases h) (fun _ => ?_))
    ((repeat refine W_seq ?_); refine W_skip ?_)
    simp (maxSteps := 1000000) only [VL, VM, ↓Gd_none, ↓Gd_t, ↓Gd_f, reduceIte, reduceCtorEq, Int.reduceLE, Int.reduceLT, Int.reduceToNat, Int.reduceNeg, Nat.reduceLT, Nat.reduceEqDiff, Nat.reduceAdd, Nat.reduceSub, Nat.reduceMul, Nat.reduceLeDiff]
    ((repeat refine W_seq ?_); refine W_region0 T_ok ?_)
    simp (maxSteps := 1000000) only [VL, VM, ↓Gd_none, ↓Gd_t, ↓Gd_f, reduceIte, reduceCtorEq, Int.reduceLE, Int.reduceLT, Int.reduceToNat, Int.reduceNeg, Nat.reduceLT, Nat.reduceEqDiff, Nat.reduceAdd, Nat.reduceSub, Nat.reduceMul, Nat.reduceLeDiff, j1]
    refine LoopK.mk (j + 1) (by omega) (by omega) ⟨rfl, rfl, rfl, rfl, rfl, rfl, rfl, rfl, trivial⟩ rfl
  have j2 : ((j : Int) < (h.bears.length : Int)) = False := eq_false (by omega)
  simp (maxSteps := 1000000) only [VL, VM, ↓Gd_none, ↓Gd_t, ↓Gd_f, reduceIte, reduceCtorEq, Int.reduceLE, Int.reduceLT, Int.reduceToNat, Int.reduceNeg, Nat.reduceLT, Nat.reduceEqDiff, Nat.reduceAdd, Nat.reduceSub, Nat.reduceMul, Nat.reduceLeDiff, hll, j2]
  ((repeat refine W_seq ?_); refine W_cond (b := false) (by first | rfl | simp only [ev, get_cons, Nat.reduceEqDiff, if_true, if_false, reduceIte]) (fun h => by cases h) (fun _ => ?_))
  ((repeat refine W_seq ?_); refine W_exit ?_)
  simp (maxSteps := 1000000) only [VL, VM, ↓Gd_none, ↓Gd_t, ↓Gd_f, reduceIte, reduceCtorEq, Int.reduceLE, Int.reduceLT, Int.reduceToNat, Int.reduceNeg, Nat.reduceLT, Nat.reduceEqDiff, Nat.reduceAdd, Nat.reduceSub, Nat.reduceMul, Nat.reduceLeDiff]
  ((repeat refine W_seq ?_); refine W_region0 T_ok ?_)
  simp (maxSteps := 1000000) only [VL, VM, ↓Gd_none, ↓Gd_t, ↓Gd_f, reduceIte, reduceCtorEq, Int.reduceLE, Int.reduceLT, Int.reduceToNat, Int.reduceNeg, Nat.reduceLT, Nat.reduceEqDiff, Nat.reduceAdd, Nat.reduceSub, Nat.reduceMul, Nat.reduceLeDiff, DH_app hd, DH_len, DH_len0, DH_get hd, DH_get0 hd, DH_set hd, DH_set0 hd, DH_setd, DH_die hd]
  apply call_eq (f := 29) (fn := Try.f29) (by kernel_rfl) (by rfl)
  · exact borne_v h (carOf h l (tlF h l v)) _ (by omega) hb6
  rw [hct]
  simp (maxSteps := 1000000) only [VL, VM, ↓Gd_none, ↓Gd_t, ↓Gd_f, reduceIte, reduceCtorEq, Int.reduceLE, Int.reduceLT, Int.reduceToNat, Int.reduceNeg, Nat.reduceLT, Nat.reduceEqDiff, Nat.reduceAdd, Nat.reduceSub, Nat.reduceMul, Nat.reduceLeDiff, DH_app hd, DH_len, DH_len0, DH_get hd, DH_get0 hd, DH_set hd, DH_set0 hd, DH_setd, DH_die hd]
  generalize bornB h (carOf h l (tlF h l v)) h.bears.length = ok at ok1 ok2
  generalize hvd : verdictOf h l = vd at ok1 ok2
  rcases Decidable.em (vd = 1) with e1 | e1
  case' inl =>
    have q1 := ok1 e1
    subst q1
    have e2 := eq_false (show ¬ vd = 2 by omega)
    have e1 := eq_true e1
    ((repeat refine W_seq ?_); refine W_region0 T_ok ?_)
    simp (maxSteps := 1000000) only [VL, VM, ↓Gd_none, ↓Gd_t, ↓Gd_f, reduceIte, reduceCtorEq, Int.reduceLE, Int.reduceLT, Int.reduceToNat, Int.reduceNeg, Nat.reduceLT, Nat.reduceEqDiff, Nat.reduceAdd, Nat.reduceSub, Nat.reduceMul, Nat.reduceLeDiff, e1, e2]
  case' inr =>
    rcases Decidable.em (vd = 2) with e2 | e2
    case' inl =>
      have q1 := ok2 e2
      subst q1
      have e1 := eq_false e1
      have e2 := eq_true e2
      ((repeat refine W_seq ?_); refine W_region0 T_ok ?_)
      simp (maxSteps := 1000000) only [VL, VM, ↓Gd_none, ↓Gd_t, ↓Gd_f, reduceIte, reduceCtorEq, Int.reduceLE, Int.reduceLT, Int.reduceToNat, Int.reduceNeg, Nat.reduceLT, Nat.reduceEqDiff, Nat.reduceAdd, Nat.reduceSub, Nat.reduceMul, Nat.reduceLeDiff, e1, e2]
    case' inr =>
      have e1 := eq_false e1
      have e2 := eq_false e2
      ((repeat refine W_seq ?_); refine W_region0 T_ok ?_)
      simp (maxSteps := 1000000) only [VL, VM, ↓Gd_none, ↓Gd_t, ↓Gd_f, reduceIte, reduceCtorEq, Int.reduceLE, Int.reduceLT, Int.reduceToNat, Int.reduceNeg, Nat.reduceLT, Nat.reduceEqDiff, Nat.reduceAdd, Nat.reduceSub, Nat.reduceMul, Nat.reduceLeDiff, e1, e2]
  all_goals
    ((repeat refine W_seq ?_); refine W_cond (b := false) (by first | rfl | simp only [ev, get_cons, Nat.reduceEqDiff, if_true, if_false, reduceIte]) (fun h => by cases h) (fun _ => ?_))
    ((repeat refine W_seq ?_); refine W_skip ?_)
    simp (maxSteps := 1000000) only [VL, VM, ↓Gd_none, ↓Gd_t, ↓Gd_f, reduceIte, reduceCtorEq, Int.reduceLE, Int.reduceLT, Int.reduceToNat, Int.reduceNeg, Nat.reduceLT, Nat.reduceEqDiff, Nat.reduceAdd, Nat.reduceSub, Nat.reduceMul, Nat.reduceLeDiff]
    ((repeat refine W_seq ?_); refine W_region0 T_ok ?_)
    simp (maxSteps := 1000000) only [VL, VM, ↓Gd_none, ↓Gd_t, ↓Gd_f, reduceIte, reduceCtorEq, Int.reduceLE, Int.reduceLT, Int.reduceToNat, Int.reduceNeg, Nat.reduceLT, Nat.reduceEqDiff, Nat.reduceAdd, Nat.reduceSub, Nat.reduceMul, Nat.reduceLeDiff, k1]
    refine LoopK.mk (i + 1, tlU h l v) (by simp; omega) (by simp; omega) ⟨rfl, rfl, rfl, rfl, ?_, rfl, trivial⟩ rfl
    simp [get_cons]
end Go.Proofs.Ytijcmgfblpokhaa.Vm
