/- VaultFewer answers true for every list of numbers. No conditions. -/
import Derived.Test.YtijcmgfblpokhaaB48
import Derived.Test.YtijcmgfblpokhaaB49
import Derived.Test.YtijcmgfblpokhaaB52
set_option linter.unusedVariables false
set_option linter.unusedSimpArgs false
/- The law of fewer puts, on values. (Vm) -/
namespace Go.Proofs.Ytijcmgfblpokhaa.Vm
open Go Go.Proofs
theorem shuffle_c {H0 : List VObj} {d : Nat} (hd : d < H0.length) {L : List VObj} (u : Int) (m : Nat) (lg : List (Nat × Nat)) (hm : m ≤ 1000000) : VC Try.prog 40 [.ptr d 0, vi m] ⟨DH H0 d u L, lg⟩ (fun r M' => M' = ⟨DH H0 d (shufU u m) L, lg⟩ ∧ r = intsV (shufF u m)) := by
  rw [DH_base, DH_base (u := shufU u m)]
  exact shuffle_v (by rw [List.length_append]; omega) u m lg hm
/-- a list in the order that numbers say -/
def reord (l : List Pu) (o : List Int) : List Pu := o.map fun x => l.getD x.toNat ⟨⟨0, 0⟩, 0⟩
theorem map_getD {α : Type} (l : List α) (z : α) : (List.range l.length).map (fun i => l.getD i z) = l := by
  apply List.ext_getElem
  · simp
  · intro i h1 h2
    simp at h1
    simp [h1]
theorem reord_perm {l : List Pu} {u : Int} (hl : l.length ≤ 1000000) : l.Perm (reord l (shufF u l.length)) := by
  obtain ⟨p, hp, h⟩ := shufF_perm (m := l.length) u hl
  unfold reord
  rw [h, List.map_map]
  have h1 := hp.map (fun i : Nat => l.getD i (⟨⟨0, 0⟩, 0⟩ : Pu))
  rw [map_getD] at h1
  exact h1.symm
set_option maxHeartbeats 2000000 in
set_option maxRecDepth 100000 in
theorem fewer_v (awake : ∀ M, VC Try.prog 15 [] M (fun r M' => M' = M ∧ r = vb true)) (xs : List Int) (M : Mem) (hl : xs.length ≤ maxLen) : VC Try.prog 7 [intsV xs] M (fun r M' => M' = M ∧ r = vb true) := by
  refine VC_own' T_ok (f := 7) (fn := Try.f7) (by kernel_rfl) rfl Try.ntmps7 (by rfl) (by rfl) ?_
  ((repeat refine W_seq ?_); refine W_region0 T_ok ?_)
  simp (maxSteps := 1000000) only [VL, VM, ↓Gd_none, ↓Gd_t, ↓Gd_f, cond_true, cond_false, if_true, if_false, forall_const, reduceIte, reduceCtorEq, Int.reduceLE, Int.reduceLT, Int.reduceToNat, Int.reduceNeg, Nat.reduceLT, Nat.reduceEqDiff, Nat.reduceAdd, Nat.reduceSub, Nat.reduceMul, Nat.reduceLeDiff]
  ((repeat refine W_seq ?_); refine W_region0 T_ok ?_)
  simp (maxSteps := 1000000) only [VL, VM, ↓Gd_none, ↓Gd_t, ↓Gd_f, cond_true, cond_false, if_true, if_false, forall_const, reduceIte, reduceCtorEq, Int.reduceLE, Int.reduceLT, Int.reduceToNat, Int.reduceNeg, Nat.reduceLT, Nat.reduceEqDiff, Nat.reduceAdd, Nat.reduceSub, Nat.reduceMul, Nat.reduceLeDiff]
  apply call_eq (f := 17) (fn := Try.f17) (by kernel_rfl) (by rfl)
  · exact dieOf_v xs M hl
  obtain ⟨H0, hH0⟩ : ∃ H0, H0 = M.H ++ [VObj.dead] := ⟨_, rfl⟩
  obtain ⟨d, hdd⟩ : ∃ d, d = M.H.length := ⟨_, rfl⟩
  have hd : d < H0.length := by rw [hH0, hdd]; simp
  rw [← hH0, ← hdd]
  have tail : ∀ u L, DH H0 d u L = M.H ++ (.obj [uv u] :: L) := fun u L => by rw [hH0, hdd]; exact DH_tail M u L
  generalize dieU xs = u0
  simp (maxSteps := 1000000) only [VL, VM, ↓Gd_none, ↓Gd_t, ↓Gd_f, cond_true, cond_false, if_true, if_false, forall_const, reduceIte, reduceCtorEq, Int.reduceLE, Int.reduceLT, Int.reduceToNat, Int.reduceNeg, Nat.reduceLT, Nat.reduceEqDiff, Nat.reduceAdd, Nat.reduceSub, Nat.reduceMul, Nat.reduceLeDiff]
  ((repeat refine W_seq ?_); refine W_region0 T_ok ?_)
  simp (maxSteps := 1000000) only [VL, VM, ↓Gd_none, ↓Gd_t, ↓Gd_f, cond_true, cond_false, if_true, if_false, forall_const, reduceIte, reduceCtorEq, Int.reduceLE, Int.reduceLT, Int.reduceToNat, Int.reduceNeg, Nat.reduceLT, Nat.reduceEqDiff, Nat.reduceAdd, Nat.reduceSub, Nat.reduceMul, Nat.reduceLeDiff]
  refine fn_call (f := 16) (fn := Try.f16) (by kernel_rfl) (by rfl) ?_
  refine (hallOf_v hd u0 M.lg 5 3 3 (by omega) (by omega) (by omega)).mono ?_
  rintro _ _ ⟨h, u1, wd, dp, rfl, rfl, hG, hW, hD, hN⟩
  have hv := hG.ok
  have V := VH.of hv
  have F := hG.fin
  simp (maxSteps := 1000000) only [VL, VM, ↓Gd_none, ↓Gd_t, ↓Gd_f, cond_true, cond_false, if_true, if_false, forall_const, reduceIte, reduceCtorEq, Int.reduceLE, Int.reduceLT, Int.reduceToNat, Int.reduceNeg, Nat.reduceLT, Nat.reduceEqDiff, Nat.reduceAdd, Nat.reduceSub, Nat.reduceMul, Nat.reduceLeDiff, DH_app hd, DH_len, DH_len0, DH_get hd, DH_get0 hd, DH_set hd, DH_set0 hd, DH_setd, DH_die hd]
  ((repeat refine W_seq ?_); refine W_region0 T_ok ?_)
  simp (maxSteps := 1000000) only [VL, VM, ↓Gd_none, ↓Gd_t, ↓Gd_f, cond_true, cond_false, if_true, if_false, forall_const, reduceIte, reduceCtorEq, Int.reduceLE, Int.reduceLT, Int.reduceToNat, Int.reduceNeg, Nat.reduceLT, Nat.reduceEqDiff, Nat.reduceAdd, Nat.reduceSub, Nat.reduceMul, Nat.reduceLeDiff, DH_app hd, DH_len, DH_len0, DH_get hd, DH_get0 hd, DH_set hd, DH_set0 hd, DH_setd, DH_die hd]
  refine fn_call (f := 23) (fn := Try.f23) (by kernel_rfl) (by rfl) ?_
  rw [DH_base]
  refine (layoutOf_v (by rw [List.length_append]; omega) u1 M.lg h 8 V F (by omega) hv).mono ?_
  rintro _ _ ⟨l, u2, rfl, rfl, hle, hlm⟩
  rw [← DH_base]
  have hg := lay_good hle
  have hlen := lay_len hle
  have hle2 : layoutErr h l = 0 := layout_ok.2 ⟨hv, hle⟩
  simp (maxSteps := 1000000) only [VL, VM, ↓Gd_none, ↓Gd_t, ↓Gd_f, cond_true, cond_false, if_true, if_false, forall_const, reduceIte, reduceCtorEq, Int.reduceLE, Int.reduceLT, Int.reduceToNat, Int.reduceNeg, Nat.reduceLT, Nat.reduceEqDiff, Nat.reduceAdd, Nat.reduceSub, Nat.reduceMul, Nat.reduceLeDiff]
  have hbl := V.bears
  have hbp := bays_pos V
  have hb6 := F.bears
  have hll : (loadsOf h l).length = h.bears.length := by rw [loadsOf_len]; omega
  ((repeat refine W_seq ?_); refine W_region0 T_ok ?_)
  simp (maxSteps := 1000000) only [VL, VM, ↓Gd_none, ↓Gd_t, ↓Gd_f, cond_true, cond_false, if_true, if_false, forall_const, reduceIte, reduceCtorEq, Int.reduceLE, Int.reduceLT, Int.reduceToNat, Int.reduceNeg, Nat.reduceLT, Nat.reduceEqDiff, Nat.reduceAdd, Nat.reduceSub, Nat.reduceMul, Nat.reduceLeDiff, DH_app hd, DH_len, DH_len0, DH_get hd, DH_get0 hd, DH_set hd, DH_set0 hd, DH_setd, DH_die hd]
  apply call_eq (f := 40) (fn := Try.f40) (by kernel_rfl) (by rfl)
  · exact shuffle_c hd u2 l.length M.lg (by omega)
  simp (maxSteps := 1000000) only [VL, VM, ↓Gd_none, ↓Gd_t, ↓Gd_f, cond_true, cond_false, if_true, if_false, forall_const, reduceIte, reduceCtorEq, Int.reduceLE, Int.reduceLT, Int.reduceToNat, Int.reduceNeg, Nat.reduceLT, Nat.reduceEqDiff, Nat.reduceAdd, Nat.reduceSub, Nat.reduceMul, Nat.reduceLeDiff, DH_app hd, DH_len, DH_len0, DH_get hd, DH_get0 hd, DH_set hd, DH_set0 hd, DH_setd, DH_die hd]
  have hsl : (shufF u2 l.length).length = l.length := shufSt_len u2 l.length l.length
  have hsin := shufF_in (u := u2) (m := l.length) (by omega)
  have hperm := reord_perm (l := l) (u := u2) (by omega)
  generalize shufF u2 l.length = od at hsl hsin hperm
  generalize shufU u2 l.length = u3
  ((repeat refine W_seq ?_); refine W_region0 T_ok ?_)
  simp (maxSteps := 1000000) only [VL, VM, ↓Gd_none, ↓Gd_t, ↓Gd_f, cond_true, cond_false, if_true, if_false, forall_const, reduceIte, reduceCtorEq, Int.reduceLE, Int.reduceLT, Int.reduceToNat, Int.reduceNeg, Nat.reduceLT, Nat.reduceEqDiff, Nat.reduceAdd, Nat.reduceSub, Nat.reduceMul, Nat.reduceLeDiff, DH_app hd, DH_len, DH_len0, DH_get hd, DH_get0 hd, DH_set hd, DH_set0 hd, DH_setd, DH_die hd]
  refine W_tok (t := 7) (k := 3) rfl ?_
  refine W_tok (t := 8) (k := 3) rfl ?_
  ((repeat refine W_seq ?_); refine W_region0 T_ok ?_)
  simp (maxSteps := 1000000) only [VL, VM, ↓Gd_none, ↓Gd_t, ↓Gd_f, cond_true, cond_false, if_true, if_false, forall_const, reduceIte, reduceCtorEq, Int.reduceLE, Int.reduceLT, Int.reduceToNat, Int.reduceNeg, Nat.reduceLT, Nat.reduceEqDiff, Nat.reduceAdd, Nat.reduceSub, Nat.reduceMul, Nat.reduceLeDiff, DH_app hd, DH_len, DH_len0, DH_get hd, DH_get0 hd, DH_set hd, DH_set0 hd, DH_setd, DH_die hd]
  ((repeat refine W_seq ?_); refine W_block ?_; (repeat refine W_seq ?_)); refine W_loopS (fun s : Nat × Int × List Pu => [(3, .ptr d 0), (4, .ptr H0.length 0), (5, pusV l), (6, intsV od), (7, .so (H0.length + 1) 3 (((reord l od).take s.1).map puP)), (8, .so (H0.length + 2) 3 (s.2.2.map puP)), (9, vi s.1)]) (fun s => ⟨DH H0 d s.2.1 [VObj.obj (hallC h), .clm s.1 3, .clm s.2.2.length 3], M.lg⟩) (fun s => od.length - s.1) (fun s => s.1 ≤ od.length ∧ s.2.2.Sublist ((reord l od).take s.1)) (0, _, []) ⟨Nat.zero_le _, List.Sublist.refl _⟩ ⟨rfl, rfl, rfl, rfl, rfl, rfl, rfl, trivial⟩ rfl ?_
  rintro ⟨i, v, m⟩ ⟨hi, hsub⟩
  simp only at hi hsub
  have k1 : -9223372036854775808 ≤ (i : Int) + 1 ∧ (i : Int) + 1 < 9223372036854775808 := by omega
  have hol : (reord l od).length = od.length := by simp [reord]
  ((repeat refine W_seq ?_); refine W_region0 T_ok ?_)
  rcases Nat.lt_or_ge i od.length with hlt | hge
  · have k2 : ((i : Int) < (od.length : Int)) = True := eq_true (by omega)
    have ho : od[i]? = some od[i] := List.getElem?_eq_getElem hlt
    have ho' := map_at (f := intP) ho
    have hoin := hsin _ (List.getElem_mem hlt)
    have hr : (reord l od)[i]? = some (l.getD od[i].toNat ⟨⟨0, 0⟩, 0⟩) := by simp [reord, ho]
    generalize od[i] = x at ho ho' hoin hr
    have x0 := hoin.1
    have hx : l[x.toNat]? = some (l.getD x.toNat ⟨⟨0, 0⟩, 0⟩) := by
      rw [List.getD, List.getElem?_eq_getElem (show x.toNat < l.length by omega)]; rfl
    generalize l.getD x.toNat ⟨⟨0, 0⟩, 0⟩ = p at hx hr
    have hx' := map_at (f := puP) hx
    have e1 : ((reord l od).take i).length = i := by rw [List.length_take]; omega
    have s1 : (reord l od).take (i + 1) = (reord l od).take i ++ [p] := by
      rw [List.take_add_one, hr]; rfl
    have hml := hsub.length_le
    rw [e1] at hml
    generalize (reord l od).take i = la at e1 s1 hsub
    have q1 : ((i + 1) * 24 ≤ 140737488355328) = True := eq_true (by omega)
    have q2 : ((m.length + 1) * 24 ≤ 140737488355328) = True := eq_true (by omega)
    simp (maxSteps := 1000000) only [VL, VM, ↓Gd_none, ↓Gd_t, ↓Gd_f, cond_true, cond_false, if_true, if_false, forall_const, reduceIte, reduceCtorEq, Int.reduceLE, Int.reduceLT, Int.reduceToNat, Int.reduceNeg, Nat.reduceLT, Nat.reduceEqDiff, Nat.reduceAdd, Nat.reduceSub, Nat.reduceMul, Nat.reduceLeDiff, k2]
    ((repeat refine W_seq ?_); refine W_cond (b := true) (by first | rfl | simp only [ev, get_cons, Nat.reduceEqDiff, if_true, if_false, reduceIte]) (fun _ => ?_) (fun h => by cases h))
    ((repeat refine W_seq ?_); refine W_skip ?_)
    simp (maxSteps := 1000000) only [VL, VM, ↓Gd_none, ↓Gd_t, ↓Gd_f, cond_true, cond_false, if_true, if_false, forall_const, reduceIte, reduceCtorEq, Int.reduceLE, Int.reduceLT, Int.reduceToNat, Int.reduceNeg, Nat.reduceLT, Nat.reduceEqDiff, Nat.reduceAdd, Nat.reduceSub, Nat.reduceMul, Nat.reduceLeDiff]
    ((repeat refine W_seq ?_); refine W_block ?_)
    ((repeat refine W_seq ?_); refine W_region0 T_ok ?_)
    simp (maxSteps := 1000000) only [VL, VM, ↓Gd_none, ↓Gd_t, ↓Gd_f, cond_true, cond_false, if_true, if_false, forall_const, reduceIte, reduceCtorEq, Int.reduceLE, Int.reduceLT, Int.reduceToNat, Int.reduceNeg, Nat.reduceLT, Nat.reduceEqDiff, Nat.reduceAdd, Nat.reduceSub, Nat.reduceMul, Nat.reduceLeDiff, DH_app hd, DH_len, DH_len0, DH_get hd, DH_get0 hd, DH_set hd, DH_set0 hd, DH_setd, DH_die hd, ho', x0, hx', e1, q1]
    ((repeat refine W_seq ?_); refine W_region0 T_ok ?_)
    simp (maxSteps := 1000000) only [VL, VM, ↓Gd_none, ↓Gd_t, ↓Gd_f, cond_true, cond_false, if_true, if_false, forall_const, reduceIte, reduceCtorEq, Int.reduceLE, Int.reduceLT, Int.reduceToNat, Int.reduceNeg, Nat.reduceLT, Nat.reduceEqDiff, Nat.reduceAdd, Nat.reduceSub, Nat.reduceMul, Nat.reduceLeDiff, DH_app hd, DH_len, DH_len0, DH_get hd, DH_get0 hd, DH_set hd, DH_set0 hd, DH_setd, DH_die hd]
    apply call_eq (f := 41) (fn := Try.f41) (by kernel_rfl) (by rfl)
    · exact once_c hd v 2 M.lg (by omega)
    simp (maxSteps := 1000000) only [VL, VM, ↓Gd_none, ↓Gd_t, ↓Gd_f, cond_true, cond_false, if_true, if_false, forall_const, reduceIte, reduceCtorEq, Int.reduceLE, Int.reduceLT, Int.reduceToNat, Int.reduceNeg, Nat.reduceLT, Nat.reduceEqDiff, Nat.reduceAdd, Nat.reduceSub, Nat.reduceMul, Nat.reduceLeDiff, DH_app hd, DH_len, DH_len0, DH_get hd, DH_get0 hd, DH_set hd, DH_set0 hd, DH_setd, DH_die hd]
    cases onceF v 2
    · ((repeat refine W_seq ?_); refine W_cond (b := false) (by first | rfl | simp only [ev, get_cons, Nat.reduceEqDiff, if_true, if_false, reduceIte]) (fun h => by cases h) (fun _ => ?_))
      ((repeat refine W_seq ?_); refine W_skip ?_)
      simp (maxSteps := 1000000) only [VL, VM, ↓Gd_none, ↓Gd_t, ↓Gd_f, cond_true, cond_false, if_true, if_false, forall_const, reduceIte, reduceCtorEq, Int.reduceLE, Int.reduceLT, Int.reduceToNat, Int.reduceNeg, Nat.reduceLT, Nat.reduceEqDiff, Nat.reduceAdd, Nat.reduceSub, Nat.reduceMul, Nat.reduceLeDiff]
      ((repeat refine W_seq ?_); refine W_region0 T_ok ?_)
      simp (maxSteps := 1000000) only [VL, VM, ↓Gd_none, ↓Gd_t, ↓Gd_f, cond_true, cond_false, if_true, if_false, forall_const, reduceIte, reduceCtorEq, Int.reduceLE, Int.reduceLT, Int.reduceToNat, Int.reduceNeg, Nat.reduceLT, Nat.reduceEqDiff, Nat.reduceAdd, Nat.reduceSub, Nat.reduceMul, Nat.reduceLeDiff, k1]
      refine LoopK.mk (i + 1, castU v 2, m) (by simp; omega) ⟨by simp; omega, ?_⟩ ⟨rfl, rfl, rfl, rfl, ?_, rfl, rfl, trivial⟩ rfl
      · simp only
        rw [s1]
        exact hsub.trans (List.sublist_append_left _ _)
      · simp only
        rw [s1]; simp [get_cons]
    · ((repeat refine W_seq ?_); refine W_cond (b := true) (by first | rfl | simp only [ev, get_cons, Nat.reduceEqDiff, if_true, if_false, reduceIte]) (fun _ => ?_) (fun h => by cases h))
      ((repeat refine W_seq ?_); refine W_region0 T_ok ?_)
      simp (maxSteps := 1000000) only [VL, VM, ↓Gd_none, ↓Gd_t, ↓Gd_f, cond_true, cond_false, if_true, if_false, forall_const, reduceIte, reduceCtorEq, Int.reduceLE, Int.reduceLT, Int.reduceToNat, Int.reduceNeg, Nat.reduceLT, Nat.reduceEqDiff, Nat.reduceAdd, Nat.reduceSub, Nat.reduceMul, Nat.reduceLeDiff, DH_app hd, DH_len, DH_len0, DH_get hd, DH_get0 hd, DH_set hd, DH_set0 hd, DH_setd, DH_die hd, ho', x0, hx', q2]
      ((repeat refine W_seq ?_); refine W_region0 T_ok ?_)
      simp (maxSteps := 1000000) only [VL, VM, ↓Gd_none, ↓Gd_t, ↓Gd_f, cond_true, cond_false, if_true, if_false, forall_const, reduceIte, reduceCtorEq, Int.reduceLE, Int.reduceLT, Int.reduceToNat, Int.reduceNeg, Nat.reduceLT, Nat.reduceEqDiff, Nat.reduceAdd, Nat.reduceSub, Nat.reduceMul, Nat.reduceLeDiff, k1]
      refine LoopK.mk (i + 1, castU v 2, m ++ [p]) (by simp; omega) ⟨by simp; omega, ?_⟩ ⟨rfl, rfl, rfl, rfl, ?_, ?_, rfl, trivial⟩ ?_
      · simp only
        rw [s1]
        exact List.Sublist.append hsub (List.Sublist.refl _)
      · simp only
        rw [s1]; simp [get_cons]
      · simp [get_cons]
      · simp
  have k2 : ((i : Int) < (od.length : Int)) = False := eq_false (by omega)
  obtain rfl : i = od.length := by omega
  rw [List.take_of_length_le (by omega)] at hsub ⊢
  have hkl := layErr_zero.1 hle
  have hko := LayOk.perm hperm hkl
  have hkm := LayOk.sub hsub hko
  have heo : layoutErr h (reord l od) = 0 := layout_ok.2 ⟨hv, layErr_zero.2 hko⟩
  have hem : layoutErr h m = 0 := layout_ok.2 ⟨hv, layErr_zero.2 hkm⟩
  have hlo := loadsOf_perm (h := h) hperm
  have hvo := verdict_perm (h := h) hperm
  have hro := rent_perm (h := h) hperm
  have hgo : ∀ o ∈ reord l od, GoodP h o := fun o ho => hg o (hperm.mem_iff.2 ho)
  have hvm : verdictOf h l = 1 → verdictOf h m = 1 := fun e => verdict_sub V hgo hsub (hvo ▸ e)
  have hlm : ∀ b, (loadAt h m b).lo ≤ (loadAt h l b).lo ∧ (loadAt h m b).hi ≤ (loadAt h l b).hi := fun b => by
    rw [loadAt_perm hperm b]
    exact loadAt_sub V hgo hsub b
  have hlm2 : (loadsOf h m).length = h.bears.length := by rw [loadsOf_len]; omega
  have hl1 := hko.1
  have hl2 := hkm.1
  generalize reord l od = other at *
  clear k1 hi hge
  simp (maxSteps := 1000000) only [VL, VM, ↓Gd_none, ↓Gd_t, ↓Gd_f, cond_true, cond_false, if_true, if_false, forall_const, reduceIte, reduceCtorEq, Int.reduceLE, Int.reduceLT, Int.reduceToNat, Int.reduceNeg, Nat.reduceLT, Nat.reduceEqDiff, Nat.reduceAdd, Nat.reduceSub, Nat.reduceMul, Nat.reduceLeDiff, k2]
  ((repeat refine W_seq ?_); refine W_cond (b := false) (by first | rfl | simp only [ev, get_cons, Nat.reduceEqDiff, if_true, if_false, reduceIte]) (fun h => by cases h) (fun _ => ?_))
  ((repeat refine W_seq ?_); refine W_exit ?_)
  simp (maxSteps := 1000000) only [VL, VM, ↓Gd_none, ↓Gd_t, ↓Gd_f, cond_true, cond_false, if_true, if_false, forall_const, reduceIte, reduceCtorEq, Int.reduceLE, Int.reduceLT, Int.reduceToNat, Int.reduceNeg, Nat.reduceLT, Nat.reduceEqDiff, Nat.reduceAdd, Nat.reduceSub, Nat.reduceMul, Nat.reduceLeDiff]
  ((repeat refine W_seq ?_); refine W_region0 T_ok ?_)
  simp (maxSteps := 1000000) only [VL, VM, ↓Gd_none, ↓Gd_t, ↓Gd_f, cond_true, cond_false, if_true, if_false, forall_const, reduceIte, reduceCtorEq, Int.reduceLE, Int.reduceLT, Int.reduceToNat, Int.reduceNeg, Nat.reduceLT, Nat.reduceEqDiff, Nat.reduceAdd, Nat.reduceSub, Nat.reduceMul, Nat.reduceLeDiff, DH_app hd, DH_len, DH_len0, DH_get hd, DH_get0 hd, DH_set hd, DH_set0 hd, DH_setd, DH_die hd]
  apply call_eq (f := 24) (fn := Try.f24) (by kernel_rfl) (by rfl)
  · exact Loads_vm h l _ F (by omega)
  rw [show loadsR h l = spsV (loadsOf h l) from if_pos hle2, hle2]
  simp (maxSteps := 1000000) only [VL, VM, ↓Gd_none, ↓Gd_t, ↓Gd_f, cond_true, cond_false, if_true, if_false, forall_const, reduceIte, reduceCtorEq, Int.reduceLE, Int.reduceLT, Int.reduceToNat, Int.reduceNeg, Nat.reduceLT, Nat.reduceEqDiff, Nat.reduceAdd, Nat.reduceSub, Nat.reduceMul, Nat.reduceLeDiff, DH_app hd, DH_len, DH_len0, DH_get hd, DH_get0 hd, DH_set hd, DH_set0 hd, DH_setd, DH_die hd]
  ((repeat refine W_seq ?_); refine W_region0 T_ok ?_)
  simp (maxSteps := 1000000) only [VL, VM, ↓Gd_none, ↓Gd_t, ↓Gd_f, cond_true, cond_false, if_true, if_false, forall_const, reduceIte, reduceCtorEq, Int.reduceLE, Int.reduceLT, Int.reduceToNat, Int.reduceNeg, Nat.reduceLT, Nat.reduceEqDiff, Nat.reduceAdd, Nat.reduceSub, Nat.reduceMul, Nat.reduceLeDiff, DH_app hd, DH_len, DH_len0, DH_get hd, DH_get0 hd, DH_set hd, DH_set0 hd, DH_setd, DH_die hd]
  apply call_eq (f := 24) (fn := Try.f24) (by kernel_rfl) (by rfl)
  · exact Loads_vm h other _ F (by omega)
  rw [show loadsR h other = spsV (loadsOf h l) by rw [hlo]; exact if_pos heo, heo]
  simp (maxSteps := 1000000) only [VL, VM, ↓Gd_none, ↓Gd_t, ↓Gd_f, cond_true, cond_false, if_true, if_false, forall_const, reduceIte, reduceCtorEq, Int.reduceLE, Int.reduceLT, Int.reduceToNat, Int.reduceNeg, Nat.reduceLT, Nat.reduceEqDiff, Nat.reduceAdd, Nat.reduceSub, Nat.reduceMul, Nat.reduceLeDiff, DH_app hd, DH_len, DH_len0, DH_get hd, DH_get0 hd, DH_set hd, DH_set0 hd, DH_setd, DH_die hd]
  ((repeat refine W_seq ?_); refine W_region0 T_ok ?_)
  simp (maxSteps := 1000000) only [VL, VM, ↓Gd_none, ↓Gd_t, ↓Gd_f, cond_true, cond_false, if_true, if_false, forall_const, reduceIte, reduceCtorEq, Int.reduceLE, Int.reduceLT, Int.reduceToNat, Int.reduceNeg, Nat.reduceLT, Nat.reduceEqDiff, Nat.reduceAdd, Nat.reduceSub, Nat.reduceMul, Nat.reduceLeDiff, DH_app hd, DH_len, DH_len0, DH_get hd, DH_get0 hd, DH_set hd, DH_set0 hd, DH_setd, DH_die hd]
  apply call_eq (f := 24) (fn := Try.f24) (by kernel_rfl) (by rfl)
  · exact Loads_vm h m _ F (by omega)
  rw [show loadsR h m = spsV (loadsOf h m) from if_pos hem, hem]
  simp (maxSteps := 1000000) only [VL, VM, ↓Gd_none, ↓Gd_t, ↓Gd_f, cond_true, cond_false, if_true, if_false, forall_const, reduceIte, reduceCtorEq, Int.reduceLE, Int.reduceLT, Int.reduceToNat, Int.reduceNeg, Nat.reduceLT, Nat.reduceEqDiff, Nat.reduceAdd, Nat.reduceSub, Nat.reduceMul, Nat.reduceLeDiff, DH_app hd, DH_len, DH_len0, DH_get hd, DH_get0 hd, DH_set hd, DH_set0 hd, DH_setd, DH_die hd]
  ((repeat refine W_seq ?_); refine W_region0 T_ok ?_)
  simp (maxSteps := 1000000) only [VL, VM, ↓Gd_none, ↓Gd_t, ↓Gd_f, cond_true, cond_false, if_true, if_false, forall_const, reduceIte, reduceCtorEq, Int.reduceLE, Int.reduceLT, Int.reduceToNat, Int.reduceNeg, Nat.reduceLT, Nat.reduceEqDiff, Nat.reduceAdd, Nat.reduceSub, Nat.reduceMul, Nat.reduceLeDiff, DH_app hd, DH_len, DH_len0, DH_get hd, DH_get0 hd, DH_set hd, DH_set0 hd, DH_setd, DH_die hd]
  apply call_eq (f := 25) (fn := Try.f25) (by kernel_rfl) (by rfl)
  · exact Bears_vm h l _ F (by omega)
  rw [show bearsOut h l = verdictOf h l from if_pos hle2, hle2]
  simp (maxSteps := 1000000) only [VL, VM, ↓Gd_none, ↓Gd_t, ↓Gd_f, cond_true, cond_false, if_true, if_false, forall_const, reduceIte, reduceCtorEq, Int.reduceLE, Int.reduceLT, Int.reduceToNat, Int.reduceNeg, Nat.reduceLT, Nat.reduceEqDiff, Nat.reduceAdd, Nat.reduceSub, Nat.reduceMul, Nat.reduceLeDiff, DH_app hd, DH_len, DH_len0, DH_get hd, DH_get0 hd, DH_set hd, DH_set0 hd, DH_setd, DH_die hd]
  ((repeat refine W_seq ?_); refine W_region0 T_ok ?_)
  simp (maxSteps := 1000000) only [VL, VM, ↓Gd_none, ↓Gd_t, ↓Gd_f, cond_true, cond_false, if_true, if_false, forall_const, reduceIte, reduceCtorEq, Int.reduceLE, Int.reduceLT, Int.reduceToNat, Int.reduceNeg, Nat.reduceLT, Nat.reduceEqDiff, Nat.reduceAdd, Nat.reduceSub, Nat.reduceMul, Nat.reduceLeDiff, DH_app hd, DH_len, DH_len0, DH_get hd, DH_get0 hd, DH_set hd, DH_set0 hd, DH_setd, DH_die hd]
  apply call_eq (f := 25) (fn := Try.f25) (by kernel_rfl) (by rfl)
  · exact Bears_vm h other _ F (by omega)
  rw [show bearsOut h other = verdictOf h l by rw [hvo]; exact if_pos heo, heo]
  simp (maxSteps := 1000000) only [VL, VM, ↓Gd_none, ↓Gd_t, ↓Gd_f, cond_true, cond_false, if_true, if_false, forall_const, reduceIte, reduceCtorEq, Int.reduceLE, Int.reduceLT, Int.reduceToNat, Int.reduceNeg, Nat.reduceLT, Nat.reduceEqDiff, Nat.reduceAdd, Nat.reduceSub, Nat.reduceMul, Nat.reduceLeDiff, DH_app hd, DH_len, DH_len0, DH_get hd, DH_get0 hd, DH_set hd, DH_set0 hd, DH_setd, DH_die hd]
  ((repeat refine W_seq ?_); refine W_region0 T_ok ?_)
  simp (maxSteps := 1000000) only [VL, VM, ↓Gd_none, ↓Gd_t, ↓Gd_f, cond_true, cond_false, if_true, if_false, forall_const, reduceIte, reduceCtorEq, Int.reduceLE, Int.reduceLT, Int.reduceToNat, Int.reduceNeg, Nat.reduceLT, Nat.reduceEqDiff, Nat.reduceAdd, Nat.reduceSub, Nat.reduceMul, Nat.reduceLeDiff, DH_app hd, DH_len, DH_len0, DH_get hd, DH_get0 hd, DH_set hd, DH_set0 hd, DH_setd, DH_die hd]
  apply call_eq (f := 25) (fn := Try.f25) (by kernel_rfl) (by rfl)
  · exact Bears_vm h m _ F (by omega)
  rw [show bearsOut h m = verdictOf h m from if_pos hem, hem]
  simp (maxSteps := 1000000) only [VL, VM, ↓Gd_none, ↓Gd_t, ↓Gd_f, cond_true, cond_false, if_true, if_false, forall_const, reduceIte, reduceCtorEq, Int.reduceLE, Int.reduceLT, Int.reduceToNat, Int.reduceNeg, Nat.reduceLT, Nat.reduceEqDiff, Nat.reduceAdd, Nat.reduceSub, Nat.reduceMul, Nat.reduceLeDiff, DH_app hd, DH_len, DH_len0, DH_get hd, DH_get0 hd, DH_set hd, DH_set0 hd, DH_setd, DH_die hd]
  ((repeat refine W_seq ?_); refine W_region0 T_ok ?_)
  simp (maxSteps := 1000000) only [VL, VM, ↓Gd_none, ↓Gd_t, ↓Gd_f, cond_true, cond_false, if_true, if_false, forall_const, reduceIte, reduceCtorEq, Int.reduceLE, Int.reduceLT, Int.reduceToNat, Int.reduceNeg, Nat.reduceLT, Nat.reduceEqDiff, Nat.reduceAdd, Nat.reduceSub, Nat.reduceMul, Nat.reduceLeDiff, DH_app hd, DH_len, DH_len0, DH_get hd, DH_get0 hd, DH_set hd, DH_set0 hd, DH_setd, DH_die hd]
  apply call_eq (f := 34) (fn := Try.f34) (by kernel_rfl) (by rfl)
  · exact Earns_vm h l _ F (by omega)
  rw [show earnsR h l = rentOf h l from if_pos hle2, hle2]
  simp (maxSteps := 1000000) only [VL, VM, ↓Gd_none, ↓Gd_t, ↓Gd_f, cond_true, cond_false, if_true, if_false, forall_const, reduceIte, reduceCtorEq, Int.reduceLE, Int.reduceLT, Int.reduceToNat, Int.reduceNeg, Nat.reduceLT, Nat.reduceEqDiff, Nat.reduceAdd, Nat.reduceSub, Nat.reduceMul, Nat.reduceLeDiff, DH_app hd, DH_len, DH_len0, DH_get hd, DH_get0 hd, DH_set hd, DH_set0 hd, DH_setd, DH_die hd]
  ((repeat refine W_seq ?_); refine W_region0 T_ok ?_)
  simp (maxSteps := 1000000) only [VL, VM, ↓Gd_none, ↓Gd_t, ↓Gd_f, cond_true, cond_false, if_true, if_false, forall_const, reduceIte, reduceCtorEq, Int.reduceLE, Int.reduceLT, Int.reduceToNat, Int.reduceNeg, Nat.reduceLT, Nat.reduceEqDiff, Nat.reduceAdd, Nat.reduceSub, Nat.reduceMul, Nat.reduceLeDiff, DH_app hd, DH_len, DH_len0, DH_get hd, DH_get0 hd, DH_set hd, DH_set0 hd, DH_setd, DH_die hd]
  apply call_eq (f := 34) (fn := Try.f34) (by kernel_rfl) (by rfl)
  · exact Earns_vm h other _ F (by omega)
  rw [show earnsR h other = rentOf h l by rw [hro]; exact if_pos heo, heo]
  simp (maxSteps := 1000000) only [VL, VM, ↓Gd_none, ↓Gd_t, ↓Gd_f, cond_true, cond_false, if_true, if_false, forall_const, reduceIte, reduceCtorEq, Int.reduceLE, Int.reduceLT, Int.reduceToNat, Int.reduceNeg, Nat.reduceLT, Nat.reduceEqDiff, Nat.reduceAdd, Nat.reduceSub, Nat.reduceMul, Nat.reduceLeDiff, DH_app hd, DH_len, DH_len0, DH_get hd, DH_get0 hd, DH_set hd, DH_set0 hd, DH_setd, DH_die hd]
  generalize rentOf h l = rent
  generalize hvl : verdictOf h l = vl at hvm
  generalize hvl2 : verdictOf h m = vm at hvm
  rcases Decidable.em (vl = 1) with e1 | e1
  case' inl =>
    have e2 := eq_true (hvm e1)
    have e1 := eq_true e1
    ((repeat refine W_seq ?_); refine W_region0 T_ok ?_)
    simp (maxSteps := 1000000) only [VL, VM, ↓Gd_none, ↓Gd_t, ↓Gd_f, cond_true, cond_false, if_true, if_false, forall_const, reduceIte, reduceCtorEq, Int.reduceLE, Int.reduceLT, Int.reduceToNat, Int.reduceNeg, Nat.reduceLT, Nat.reduceEqDiff, Nat.reduceAdd, Nat.reduceSub, Nat.reduceMul, Nat.reduceLeDiff, DH_app hd, DH_len, DH_len0, DH_get hd, DH_get0 hd, DH_set hd, DH_set0 hd, DH_setd, DH_die hd, e1, e2]
    apply call_eq (f := 39) (fn := Try.f39) (by kernel_rfl) (by rfl)
    · exact sameSpans_v (loadsOf h l) (loadsOf h l) _ (by omega) (by omega)
    simp (maxSteps := 1000000) only [VL, VM, ↓Gd_none, ↓Gd_t, ↓Gd_f, cond_true, cond_false, if_true, if_false, forall_const, reduceIte, reduceCtorEq, Int.reduceLE, Int.reduceLT, Int.reduceToNat, Int.reduceNeg, Nat.reduceLT, Nat.reduceEqDiff, Nat.reduceAdd, Nat.reduceSub, Nat.reduceMul, Nat.reduceLeDiff, DH_app hd, DH_len, DH_len0, DH_get hd, DH_get0 hd, DH_set hd, DH_set0 hd, DH_setd, DH_die hd, e1, e2, hll, hlm2, decide_true]
  case' inr =>
    have e1 := eq_false e1
    ((repeat refine W_seq ?_); refine W_region0 T_ok ?_)
    simp (maxSteps := 1000000) only [VL, VM, ↓Gd_none, ↓Gd_t, ↓Gd_f, cond_true, cond_false, if_true, if_false, forall_const, reduceIte, reduceCtorEq, Int.reduceLE, Int.reduceLT, Int.reduceToNat, Int.reduceNeg, Nat.reduceLT, Nat.reduceEqDiff, Nat.reduceAdd, Nat.reduceSub, Nat.reduceMul, Nat.reduceLeDiff, DH_app hd, DH_len, DH_len0, DH_get hd, DH_get0 hd, DH_set hd, DH_set0 hd, DH_setd, DH_die hd, e1]
    apply call_eq (f := 39) (fn := Try.f39) (by kernel_rfl) (by rfl)
    · exact sameSpans_v (loadsOf h l) (loadsOf h l) _ (by omega) (by omega)
    simp (maxSteps := 1000000) only [VL, VM, ↓Gd_none, ↓Gd_t, ↓Gd_f, cond_true, cond_false, if_true, if_false, forall_const, reduceIte, reduceCtorEq, Int.reduceLE, Int.reduceLT, Int.reduceToNat, Int.reduceNeg, Nat.reduceLT, Nat.reduceEqDiff, Nat.reduceAdd, Nat.reduceSub, Nat.reduceMul, Nat.reduceLeDiff, DH_app hd, DH_len, DH_len0, DH_get hd, DH_get0 hd, DH_set hd, DH_set0 hd, DH_setd, DH_die hd, e1, hll, hlm2, decide_true]
  all_goals
    ((repeat refine W_seq ?_); refine W_cond (b := false) (by first | rfl | simp only [ev, get_cons, Nat.reduceEqDiff, if_true, if_false, reduceIte]) (fun h => by cases h) (fun _ => ?_))
    ((repeat refine W_seq ?_); refine W_skip ?_)
    simp (maxSteps := 1000000) only [VL, VM, ↓Gd_none, ↓Gd_t, ↓Gd_f, cond_true, cond_false, if_true, if_false, forall_const, reduceIte, reduceCtorEq, Int.reduceLE, Int.reduceLT, Int.reduceToNat, Int.reduceNeg, Nat.reduceLT, Nat.reduceEqDiff, Nat.reduceAdd, Nat.reduceSub, Nat.reduceMul, Nat.reduceLeDiff]
    ((repeat refine W_seq ?_); refine W_region0 T_ok ?_)
    simp (maxSteps := 1000000) only [VL, VM, ↓Gd_none, ↓Gd_t, ↓Gd_f, cond_true, cond_false, if_true, if_false, forall_const, reduceIte, reduceCtorEq, Int.reduceLE, Int.reduceLT, Int.reduceToNat, Int.reduceNeg, Nat.reduceLT, Nat.reduceEqDiff, Nat.reduceAdd, Nat.reduceSub, Nat.reduceMul, Nat.reduceLeDiff]
    ((repeat refine W_seq ?_); refine W_block ?_; (repeat refine W_seq ?_)); refine W_loopS (fun i : Nat => [(10, spsV (loadsOf h l)), (14, spsV (loadsOf h m)), (26, vi i)]) (fun _ => ⟨DH H0 d v [VObj.obj (hallC h), .clm od.length 3, .clm m.length 3], M.lg⟩) (fun i => h.bears.length - i) (fun i => i ≤ h.bears.length) 0 (Nat.zero_le _) ⟨rfl, rfl, rfl, trivial⟩ rfl ?_
    rintro i hi
    have k1 : -9223372036854775808 ≤ (i : Int) + 1 ∧ (i : Int) + 1 < 9223372036854775808 := by omega
    ((repeat refine W_seq ?_); refine W_region0 T_ok ?_)
    rcases Nat.lt_or_ge i h.bears.length with hlt | hge
    · have k2 : ((i : Int) < (h.bears.length : Int)) = True := eq_true (by omega)
      have hx := map_at (f := spP) (loadsOf_at (h := h) (l := l) (k := i) (by omega))
      have hy := map_at (f := spP) (loadsOf_at (h := h) (l := m) (k := i) (by omega))
      have g1 : ((loadAt h m i).lo > (loadAt h l i).lo) = False := eq_false (by have := (hlm i).1; omega)
      have g2 : ((loadAt h m i).hi > (loadAt h l i).hi) = False := eq_false (by have := (hlm i).2; omega)
      simp (maxSteps := 1000000) only [VL, VM, ↓Gd_none, ↓Gd_t, ↓Gd_f, cond_true, cond_false, if_true, if_false, forall_const, reduceIte, reduceCtorEq, Int.reduceLE, Int.reduceLT, Int.reduceToNat, Int.reduceNeg, Nat.reduceLT, Nat.reduceEqDiff, Nat.reduceAdd, Nat.reduceSub, Nat.reduceMul, Nat.reduceLeDiff, hlm2, k2]
      ((repeat refine W_seq ?_); refine W_cond (b := true) (by first | rfl | simp only [ev, get_cons, Nat.reduceEqDiff, if_true, if_false, reduceIte]) (fun _ => ?_) (fun h => by cases h))
      ((repeat refine W_seq ?_); refine W_skip ?_)
      simp (maxSteps := 1000000) only [VL, VM, ↓Gd_none, ↓Gd_t, ↓Gd_f, cond_true, cond_false, if_true, if_false, forall_const, reduceIte, reduceCtorEq, Int.reduceLE, Int.reduceLT, Int.reduceToNat, Int.reduceNeg, Nat.reduceLT, Nat.reduceEqDiff, Nat.reduceAdd, Nat.reduceSub, Nat.reduceMul, Nat.reduceLeDiff]
      ((repeat refine W_seq ?_); refine W_block ?_)
      (repeat refine W_seq ?_)
      refine W_drawP T_ok [] (by kernel_rfl) (by kernel_rfl) ?_
      generalize hi : mkPlan _ = infs
      cbv at hi
      subst hi
      simp (maxSteps := 1000000) only [VL, VM, ↓Gd_none, ↓Gd_t, ↓Gd_f, cond_true, cond_false, if_true, if_false, forall_const, reduceIte, reduceCtorEq, Int.reduceLE, Int.reduceLT, Int.reduceToNat, Int.reduceNeg, Nat.reduceLT, Nat.reduceEqDiff, Nat.reduceAdd, Nat.reduceSub, Nat.reduceMul, Nat.reduceLeDiff, hx, hy, g1, g2]
      ((repeat refine W_seq ?_); refine W_cond (b := false) (by first | rfl | simp only [ev, get_cons, Nat.reduceEqDiff, if_true, if_false, reduceIte]) (fun h => by cases h) (fun _ => ?_))
      ((repeat refine W_seq ?_); refine W_skip ?_)
      simp (maxSteps := 1000000) only [VL, VM, ↓Gd_none, ↓Gd_t, ↓Gd_f, cond_true, cond_false, if_true, if_false, forall_const, reduceIte, reduceCtorEq, Int.reduceLE, Int.reduceLT, Int.reduceToNat, Int.reduceNeg, Nat.reduceLT, Nat.reduceEqDiff, Nat.reduceAdd, Nat.reduceSub, Nat.reduceMul, Nat.reduceLeDiff]
      ((repeat refine W_seq ?_); refine W_region0 T_ok ?_)
      simp (maxSteps := 1000000) only [VL, VM, ↓Gd_none, ↓Gd_t, ↓Gd_f, cond_true, cond_false, if_true, if_false, forall_const, reduceIte, reduceCtorEq, Int.reduceLE, Int.reduceLT, Int.reduceToNat, Int.reduceNeg, Nat.reduceLT, Nat.reduceEqDiff, Nat.reduceAdd, Nat.reduceSub, Nat.reduceMul, Nat.reduceLeDiff, k1]
      refine LoopK.mk (i + 1) (by omega) (by omega) ⟨rfl, rfl, rfl, trivial⟩ rfl
    have k2 : ((i : Int) < (h.bears.length : Int)) = False := eq_false (by omega)
    simp (maxSteps := 1000000) only [VL, VM, ↓Gd_none, ↓Gd_t, ↓Gd_f, cond_true, cond_false, if_true, if_false, forall_const, reduceIte, reduceCtorEq, Int.reduceLE, Int.reduceLT, Int.reduceToNat, Int.reduceNeg, Nat.reduceLT, Nat.reduceEqDiff, Nat.reduceAdd, Nat.reduceSub, Nat.reduceMul, Nat.reduceLeDiff, hlm2, k2]
    ((repeat refine W_seq ?_); refine W_cond (b := false) (by first | rfl | simp only [ev, get_cons, Nat.reduceEqDiff, if_true, if_false, reduceIte]) (fun h => by cases h) (fun _ => ?_))
    ((repeat refine W_seq ?_); refine W_exit ?_)
    simp (maxSteps := 1000000) only [VL, VM, ↓Gd_none, ↓Gd_t, ↓Gd_f, cond_true, cond_false, if_true, if_false, forall_const, reduceIte, reduceCtorEq, Int.reduceLE, Int.reduceLT, Int.reduceToNat, Int.reduceNeg, Nat.reduceLT, Nat.reduceEqDiff, Nat.reduceAdd, Nat.reduceSub, Nat.reduceMul, Nat.reduceLeDiff]
    ((repeat refine W_seq ?_); refine W_region0 T_ok ?_)
    simp (maxSteps := 1000000) only [VL, VM, ↓Gd_none, ↓Gd_t, ↓Gd_f, cond_true, cond_false, if_true, if_false, forall_const, reduceIte, reduceCtorEq, Int.reduceLE, Int.reduceLT, Int.reduceToNat, Int.reduceNeg, Nat.reduceLT, Nat.reduceEqDiff, Nat.reduceAdd, Nat.reduceSub, Nat.reduceMul, Nat.reduceLeDiff]
    apply call_eq (f := 15) (fn := Try.f15) (by kernel_rfl) (by rfl)
    · exact awake _
    simp (maxSteps := 1000000) only [VL, VM, ↓Gd_none, ↓Gd_t, ↓Gd_f, cond_true, cond_false, if_true, if_false, forall_const, reduceIte, reduceCtorEq, Int.reduceLE, Int.reduceLT, Int.reduceToNat, Int.reduceNeg, Nat.reduceLT, Nat.reduceEqDiff, Nat.reduceAdd, Nat.reduceSub, Nat.reduceMul, Nat.reduceLeDiff]
    rw [tail]
    (repeat refine W_seq ?_)
    refine W_ret ?_
    try simp only [thenQ, blockQ]
    refine own_ret1 rfl ?_ (by rfl)
    simp only [get_cons, frz, vtup, Nat.reduceEqDiff, if_true, if_false, reduceIte]
end Go.Proofs.Ytijcmgfblpokhaa.Vm

/- VaultFewer: for every list of numbers the law answers true, and the numbers read afterwards as before. (Vm) -/
namespace Go.Proofs.Ytijcmgfblpokhaa.Vm
open Go Go.Proofs Go.ChangeShapes Go.WideShapes Go.ChangeAt Go.RowKit
set_option maxRecDepth 100000 in
theorem fewer_lifted (os : Os) (started : os.Started) (H : Type) (enc : TypeId × Value → H) :
    ReturnsInHanded {} Try.checked os 7 .any (Rows.vaultFewerSpec.pre6 enc Try.prog Try.f7 Rows.vaultFewerRow.domain false) (Rows.vaultFewerSpec.post enc Try.prog Try.f7 false true false false) := by
  refine returnsInHanded_of_change (C := Try.checked) law_own started (by kernel_rfl) Try.func7
    (ChangeSpec.witness6 (enc := enc) (C := Try.checked) false ⟨#[], #[.slice none 0 0], []⟩ 8 (by kernel_rfl) (by kernel_rfl) (by kernel_rfl) (by kernel_rfl)) ?_
  intro W base args ds gs before hval hW hcnd _
  exact ints_contract rfl (fun d => ⟨rfl, rfl, rfl⟩) rfl rfl (fun xs hl => fewer_v awake_v xs ⟨[], []⟩ hl) hval hW
theorem fewer_holds : Rows.VaultFewerSaid :=
  OpenClaim.holds_of_wide 7 Try.f7 rfl rfl rfl rfl rfl rfl rfl ⟨rfl, rfl, rfl, rfl, rfl⟩ rfl rfl rfl rfl rfl (by kernel_rfl) Try.func7 (by kernel_rfl)
    (of_decide_eq_true (by kernel_rfl)) (by unfold Func.isWrapper; first | (rw [if_pos (by decide +kernel)]; kernel_rfl) | (rw [if_neg (by decide +kernel)]; exact ⟨rfl, rfl⟩))
    (fun os started H enc _ => fewer_lifted os started H enc)
end Go.Proofs.Ytijcmgfblpokhaa.Vm
namespace Go.Proofs.Ytijcmgfblpokhaa
theorem vaultFewer_proved : Rows.VaultFewerSaid := Vm.fewer_holds
end Go.Proofs.Ytijcmgfblpokhaa
