/- VaultMirror: for every list of numbers the law answers true, and the numbers read afterwards as before. No conditions. -/
import Derived.Test.YtijcmgfblpokhaaB46
import Derived.Test.YtijcmgfblpokhaaB48
import Derived.Test.YtijcmgfblpokhaaB49
import Derived.Test.YtijcmgfblpokhaaB51
import Derived.Test.YtijcmgfblpokhaaB52
import Derived.Test.YtijcmgfblpokhaaB53
import Derived.Test.YtijcmgfblpokhaaB54
import Derived.Test.YtijcmgfblpokhaaB55
set_option linter.unusedVariables false
set_option linter.unusedSimpArgs false
/- A hall that is copied into slices of its own. (Vm) -/
-- TABLE T5
namespace Go.Proofs.Ytijcmgfblpokhaa.Vm
open Go Go.Proofs
/-- what a call leaves may be cut behind what its result leads to -/
theorem VC_cut {P : Program} {f : Nat} {args : List VV} {M : Mem} {Q Q' : VV → Mem → Prop} (h : VC P f args M Q) (hq : (∀ e ∈ M.lg, e.1 < M.H.length ∧ e.2 < M.H.length) → ∀ r M', Q r M' → ∃ n lg', M.H.length ≤ n ∧ n ≤ M'.H.length ∧ (∀ e ∈ M'.lg, e.1 < n → e.2 < n ∧ e ∈ lg') ∧ (∀ e ∈ lg', e.1 < n ∧ e.2 < n) ∧ (∀ x ∈ refs (frz n M'.H r), x < n) ∧ Q' (frz n M'.H r) ⟨M'.H.take n, lg'⟩) : VC P f args M Q' := by
  intro G w K rargs hI ha
  refine (h G w K rargs hI ha).mono ?_
  intro e w'
  rintro ⟨rv, r, K', M', he, hQ, h1, h2, h3, h4⟩
  obtain ⟨n, lg', g1, g2, g3, g4, g5, g6⟩ := hq hI.lg r M' hQ
  refine ⟨rv, _, K', _, he, g6, frz_ok h4 g2 h1 h1 g5, fun q hq => ?_, ?_, inv_take h4 g2 g3 g4⟩
  · have := g5 q hq
    simp only [List.length_take]
    omega
  · refine h3.keep (keep_take n) (Nat.le_refl _) fun i hi => ⟨?_, rfl, fun _ _ => rfl⟩
    rw [List.getElem?_take_of_lt (by omega)]
def own5 (t : Nat) : Bool := Nat.beq t 25 || Nat.beq t 22
def ownT (T : Tab) (o k : Nat → Bool) : Tab := { T with own := o, keeps := k }
section
variable {P : Program} {T : Tab} {o k : Nat → Bool}
theorem ownT_ok (h : TabOk P T) : TabOk P (ownT T o k) := ⟨h.ty, h.fn, h.mixed⟩
theorem ownT_ty : (ownT T o k).ty = T.ty := rfl
theorem ownT_fn : (ownT T o k).fn = T.fn := rfl
theorem ownT_bin : vbin (ownT T o k) = vbin T := rfl
theorem ownT_own : (ownT T o k).own = o := rfl
theorem ownT_keeps : (ownT T o k).keeps = k := rfl
end
def keep5 (f : Nat) : Bool := keepsB f || Nat.beq f 62 || Nat.beq f 18 || Nat.beq f 48
noncomputable def T5 : Tab := ownT T own5 keep5
theorem T5_ok : TabOk Try.prog T5 := ownT_ok T_ok
theorem x5_ty : T5.ty = T.ty := ownT_ty
theorem x5_fn : T5.fn = T.fn := ownT_fn
theorem x5_bin : vbin T5 = vbin T := ownT_bin
theorem x5_oi : T5.own 25 = true := by rw [T5, ownT_own]; rfl
theorem x5_oc : T5.own 22 = true := by rw [T5, ownT_own]; rfl
theorem x5_ok : T5.own 26 = false := by rw [T5, ownT_own]; rfl
theorem x5_keeps : T5.keeps = keep5 := by rw [T5, ownT_keeps]
theorem flat_ints : ∀ xs : List Int, List.map VV.p (List.map intP xs).flatten = xs.map vi
  | [] => rfl
  | x :: xs => by simp [flat_ints xs]
theorem copyInts_own (xs : List Int) (M : Mem) (hl : xs.length ≤ 1000000) : VC Try.prog 62 [intsV xs] M (fun r M' => M' = ⟨M.H ++ [.obj (xs.map vi)], M.lg⟩ ∧ r = .bf M.H.length 0 xs.length 1) := by
  have q1 : (xs.length * 8 ≤ 140737488355328) = True := eq_true (by omega)
  refine VC_keep T5_ok (f := 62) (fn := Try.f62) (by rw [x5_fn]; kernel_rfl) rfl Try.ntmps62 (by rfl) (by rw [x5_keeps]; rfl) ?_
  ((repeat refine W_seq ?_); refine W_region0 T5_ok ?_)
  simp (maxSteps := 1000000) only [x5_ty, x5_fn, x5_bin, x5_oi, x5_oc, x5_ok, VL, VM, ↓Gd_none, ↓Gd_t, ↓Gd_f, reduceIte, reduceCtorEq, Int.reduceLE, Int.reduceLT, Int.reduceToNat, Int.reduceNeg, Nat.reduceLT, Nat.reduceEqDiff, Nat.reduceAdd, Nat.reduceSub, Nat.reduceMul, Nat.reduceLeDiff]
  ((repeat refine W_seq ?_); refine W_region0 T5_ok ?_)
  simp (maxSteps := 1000000) only [x5_ty, x5_fn, x5_bin, x5_oi, x5_oc, x5_ok, VL, VM, ↓Gd_none, ↓Gd_t, ↓Gd_f, reduceIte, reduceCtorEq, Int.reduceLE, Int.reduceLT, Int.reduceToNat, Int.reduceNeg, Nat.reduceLT, Nat.reduceEqDiff, Nat.reduceAdd, Nat.reduceSub, Nat.reduceMul, Nat.reduceLeDiff, q1]
  (repeat refine W_seq ?_)
  refine W_ret ?_
  refine ⟨.inr rfl, rfl, [.bf M.H.length 0 xs.length 1], rfl, ?_, rfl⟩
  rw [flat_ints]
abbrev cellsC (l : List Pl) : List VV := List.map VV.p (List.map plP l).flatten
abbrev bufC (h : Ha) (n : Nat) : List VV := [vi h.wide, vi h.deep, .bf n 0 h.water.length 2, .bf (n + 1) 0 h.shut.length 2, vi h.bay.x, vi h.bay.y, .bf (n + 2) 0 h.bears.length 1, kisV h.kinds]
abbrev bufHall (h : Ha) (n : Nat) : VV := .agg (bufC h n)
abbrev zeroHall : List VV := [vi 0, vi 0, .sf 0 [], .sf 0 [], vi 0, vi 0, .sf 0 [], .sf 0 []]
abbrev ownL (h : Ha) (n : Nat) : List VObj := [VObj.obj [vi h.wide, vi h.deep, .bf (n + 2) 0 h.water.length 2, .bf (n + 3) 0 h.shut.length 2, vi h.bay.x, vi h.bay.y, .bf (n + 4) 0 h.bears.length 1, .so (n + 5) 6 (h.kinds.map kiP)], VObj.obj (bufC h (n + 2)), VObj.obj (cellsC h.water), VObj.obj (cellsC h.shut), VObj.obj (h.bears.map vi), .clm h.kinds.length 6]
abbrev ownG (n : Nat) : List (Nat × Nat) := [(n, n + 2), (n, n + 3), (n, n + 4), (n, n + 5), (n + 1, n + 2), (n + 1, n + 3), (n + 1, n + 4)]
theorem addLg_Y (id : Nat) (rs : List Nat) (lg : List (Nat × Nat)) : ∃ X, addLg id rs lg = lg ++ X ∧ ∀ e ∈ X, e.1 = id ∧ e.2 ∈ rs := by
  unfold addLg
  split
  · exact ⟨[], by simp, by simp⟩
  · refine ⟨_, rfl, fun e he => ?_⟩
    obtain ⟨r, hr, rfl⟩ := List.mem_map.1 he
    refine ⟨rfl, ?_⟩
    simp only [List.mem_filter] at hr
    first | exact hr.1 | exact hr
theorem copyHall_own (h : Ha) (M : Mem) (F : Fin h) : VC Try.prog 18 [hallV h] M (fun r M' => M' = ⟨M.H ++ ownL h M.H.length, M.lg ++ ownG M.H.length⟩ ∧ r = bufHall h (M.H.length + 2)) := by
  have fw := F.water
  have fs := F.shut
  have fb := F.bears
  have fk := F.kinds
  have q1 : (h.water.length * 16 ≤ 140737488355328) = True := eq_true (by omega)
  have q2 : (h.shut.length * 16 ≤ 140737488355328) = True := eq_true (by omega)
  refine VC_cut (Q := fun r M' => ∃ J lg, M' = ⟨M.H ++ (ownL h M.H.length ++ J), lg⟩ ∧ (∃ X, lg = M.lg ++ X ∧ ∀ e ∈ X, e ∈ ownG M.H.length) ∧ r = bufHall h (M.H.length + 2)) ?_ ?_
  · refine VC_keep T5_ok (f := 18) (fn := Try.f18) (by rw [x5_fn]; kernel_rfl) rfl Try.ntmps18 (by rfl) (by rw [x5_keeps]; rfl) ?_
    ((repeat refine W_seq ?_); refine W_region0 T5_ok ?_)
    simp (maxSteps := 1000000) only [x5_ty, x5_fn, x5_bin, x5_oi, x5_oc, x5_ok, VL, VM, ↓Gd_none, ↓Gd_t, ↓Gd_f, reduceIte, reduceCtorEq, Int.reduceLE, Int.reduceLT, Int.reduceToNat, Int.reduceNeg, Nat.reduceLT, Nat.reduceEqDiff, Nat.reduceAdd, Nat.reduceSub, Nat.reduceMul, Nat.reduceLeDiff]
    (repeat refine W_seq ?_)
    refine W_drawP T5_ok [] (by kernel_rfl) (by kernel_rfl) ?_
    generalize hi : mkPlan _ = infs
    cbv at hi
    subst hi
    simp (maxSteps := 1000000) only [x5_ty, x5_fn, x5_bin, x5_oi, x5_oc, x5_ok, VL, VM, ↓Gd_none, ↓Gd_t, ↓Gd_f, reduceIte, reduceCtorEq, Int.reduceLE, Int.reduceLT, Int.reduceToNat, Int.reduceNeg, Nat.reduceLT, Nat.reduceEqDiff, Nat.reduceAdd, Nat.reduceSub, Nat.reduceMul, Nat.reduceLeDiff, q1, q2]
    apply call_d (f := 62) (fn := Try.f62) (by kernel_rfl) (by rfl)
    · exact copyInts_own h.bears _ fb
    simp (maxSteps := 1000000) only [x5_ty, x5_fn, x5_bin, x5_oi, x5_oc, x5_ok, VL, VM, ↓Gd_none, ↓Gd_t, ↓Gd_f, reduceIte, reduceCtorEq, Int.reduceLE, Int.reduceLT, Int.reduceToNat, Int.reduceNeg, Nat.reduceLT, Nat.reduceEqDiff, Nat.reduceAdd, Nat.reduceSub, Nat.reduceMul, Nat.reduceLeDiff, q1, q2]
    ((repeat refine W_seq ?_); refine W_region0 T5_ok ?_)
    simp (maxSteps := 1000000) only [x5_ty, x5_fn, x5_bin, x5_oi, x5_oc, x5_ok, VL, VM, ↓Gd_none, ↓Gd_t, ↓Gd_f, reduceIte, reduceCtorEq, Int.reduceLE, Int.reduceLT, Int.reduceToNat, Int.reduceNeg, Nat.reduceLT, Nat.reduceEqDiff, Nat.reduceAdd, Nat.reduceSub, Nat.reduceMul, Nat.reduceLeDiff]
    ((repeat refine W_seq ?_); refine W_region0 T5_ok ?_)
    simp (maxSteps := 1000000) only [x5_ty, x5_fn, x5_bin, x5_oi, x5_oc, x5_ok, VL, VM, ↓Gd_none, ↓Gd_t, ↓Gd_f, reduceIte, reduceCtorEq, Int.reduceLE, Int.reduceLT, Int.reduceToNat, Int.reduceNeg, Nat.reduceLT, Nat.reduceEqDiff, Nat.reduceAdd, Nat.reduceSub, Nat.reduceMul, Nat.reduceLeDiff]
    obtain ⟨lgB, hB⟩ : ∃ lgB, lgB = addLg M.H.length [M.H.length + 4] (addLg M.H.length [M.H.length + 3] (addLg M.H.length [M.H.length + 2] M.lg)) := ⟨_, rfl⟩
    rw [← hB]
    refine W_ghost (id := M.H.length) (off := 7) (k := 6) (k0 := 0) (hget0 _ _) rfl ?_
    obtain ⟨lgC, hC⟩ : ∃ lgC, lgC = lgB ++ [(M.H.length, M.H.length + 5)] := ⟨_, rfl⟩
    have hCX : ∃ X, lgC = M.lg ++ X ∧ ∀ e ∈ X, e ∈ ownG M.H.length := by
      obtain ⟨X1, h1, g1⟩ := addLg_Y M.H.length [M.H.length + 2] M.lg
      obtain ⟨X2, h2, g2⟩ := addLg_Y M.H.length [M.H.length + 3] (addLg M.H.length [M.H.length + 2] M.lg)
      obtain ⟨X3, h3, g3⟩ := addLg_Y M.H.length [M.H.length + 4] (addLg M.H.length [M.H.length + 3] (addLg M.H.length [M.H.length + 2] M.lg))
      refine ⟨X1 ++ (X2 ++ (X3 ++ [(M.H.length, M.H.length + 5)])), by rw [hC, hB, h3, h2, h1]; simp, fun e he => ?_⟩
      simp only [List.mem_append, List.mem_singleton] at he
      rcases he with he | he | he | rfl
      · obtain ⟨a, b⟩ := g1 e he
        simp only [List.mem_singleton] at b
        rw [show e = (M.H.length, M.H.length + 2) from Prod.ext a b]; simp
      · obtain ⟨a, b⟩ := g2 e he
        simp only [List.mem_singleton] at b
        rw [show e = (M.H.length, M.H.length + 3) from Prod.ext a b]; simp
      · obtain ⟨a, b⟩ := g3 e he
        simp only [List.mem_singleton] at b
        rw [show e = (M.H.length, M.H.length + 4) from Prod.ext a b]; simp
      · simp
    have hA : addLg M.H.length [M.H.length + 5] lgC = lgC := addLg_has (by rw [hC]; simp)
    simp (maxSteps := 1000000) only [x5_ty, x5_fn, x5_bin, x5_oi, x5_oc, x5_ok, VL, VM, ↓Gd_none, ↓Gd_t, ↓Gd_f, reduceIte, reduceCtorEq, Int.reduceLE, Int.reduceLT, Int.reduceToNat, Int.reduceNeg, Nat.reduceLT, Nat.reduceEqDiff, Nat.reduceAdd, Nat.reduceSub, Nat.reduceMul, Nat.reduceLeDiff]
    rw [← hC]
    clear hC hB
    clear lgB
    ((repeat refine W_seq ?_); refine W_region0 T5_ok ?_)
    simp (maxSteps := 1000000) only [x5_ty, x5_fn, x5_bin, x5_oi, x5_oc, x5_ok, VL, VM, ↓Gd_none, ↓Gd_t, ↓Gd_f, reduceIte, reduceCtorEq, Int.reduceLE, Int.reduceLT, Int.reduceToNat, Int.reduceNeg, Nat.reduceLT, Nat.reduceEqDiff, Nat.reduceAdd, Nat.reduceSub, Nat.reduceMul, Nat.reduceLeDiff]
    ((repeat refine W_seq ?_); refine W_block ?_; (repeat refine W_seq ?_)); refine W_loopS (fun s : CpSt => [(1, .ptr M.H.length 0), (2, .ptr (M.H.length + 1) 0), (3, kisV h.kinds), (4, vi s.i)]) (fun s => ⟨M.H ++ (VObj.obj [vi h.wide, vi h.deep, .bf (M.H.length + 2) 0 h.water.length 2, .bf (M.H.length + 3) 0 h.shut.length 2, vi h.bay.x, vi h.bay.y, .bf (M.H.length + 4) 0 h.bears.length 1, .so (M.H.length + 5) 6 ((h.kinds.take s.i).map kiP)] :: VObj.obj zeroHall :: VObj.obj (cellsC h.water) :: VObj.obj (cellsC h.shut) :: VObj.obj (h.bears.map vi) :: .clm s.i 6 :: s.junk), lgC⟩) (fun s => h.kinds.length - s.i) (fun s => s.i ≤ h.kinds.length) ⟨0, []⟩ (Nat.zero_le _) ⟨rfl, rfl, rfl, rfl, trivial⟩ rfl ?_
    rintro ⟨i, junk⟩ hi
    simp only at hi
    have k1 : -9223372036854775808 ≤ (i : Int) + 1 ∧ (i : Int) + 1 < 9223372036854775808 := by omega
    ((repeat refine W_seq ?_); refine W_region0 T5_ok ?_)
    rcases Nat.lt_or_ge i h.kinds.length with hlt | hge
    · have k2 : ((i : Int) < (h.kinds.length : Int)) = True := eq_true (by omega)
      have hx : h.kinds[i]? = some h.kinds[i] := List.getElem?_eq_getElem hlt
      have hx' := map_at (f := kiP) hx
      have haw := F.aways _ (List.getElem_mem hlt)
      have q3 : ((i + 1) * 64 ≤ 140737488355328) = True := eq_true (by omega)
      have e1 : (h.kinds.take i).length = i := by rw [List.length_take]; omega
      have s1 : h.kinds.take (i + 1) = h.kinds.take i ++ [h.kinds[i]] := by
        rw [List.take_add_one, hx]; rfl
      generalize h.kinds[i] = k at hx hx' haw s1
      generalize h.kinds.take i = ks at e1 s1
      simp (maxSteps := 1000000) only [x5_ty, x5_fn, x5_bin, x5_oi, x5_oc, x5_ok, VL, VM, ↓Gd_none, ↓Gd_t, ↓Gd_f, reduceIte, reduceCtorEq, Int.reduceLE, Int.reduceLT, Int.reduceToNat, Int.reduceNeg, Nat.reduceLT, Nat.reduceEqDiff, Nat.reduceAdd, Nat.reduceSub, Nat.reduceMul, Nat.reduceLeDiff, k2]
      ((repeat refine W_seq ?_); refine W_cond (b := true) (by first | rfl | simp only [ev, get_cons, Nat.reduceEqDiff, if_true, if_false, reduceIte]) (fun _ => ?_) (fun h => by cases h))
      ((repeat refine W_seq ?_); refine W_skip ?_)
      simp (maxSteps := 1000000) only [x5_ty, x5_fn, x5_bin, x5_oi, x5_oc, x5_ok, VL, VM, ↓Gd_none, ↓Gd_t, ↓Gd_f, reduceIte, reduceCtorEq, Int.reduceLE, Int.reduceLT, Int.reduceToNat, Int.reduceNeg, Nat.reduceLT, Nat.reduceEqDiff, Nat.reduceAdd, Nat.reduceSub, Nat.reduceMul, Nat.reduceLeDiff]
      ((repeat refine W_seq ?_); refine W_block ?_)
      ((repeat refine W_seq ?_); refine W_region0 T5_ok ?_)
      simp (maxSteps := 1000000) only [x5_ty, x5_fn, x5_bin, x5_oi, x5_oc, x5_ok, VL, VM, ↓Gd_none, ↓Gd_t, ↓Gd_f, reduceIte, reduceCtorEq, Int.reduceLE, Int.reduceLT, Int.reduceToNat, Int.reduceNeg, Nat.reduceLT, Nat.reduceEqDiff, Nat.reduceAdd, Nat.reduceSub, Nat.reduceMul, Nat.reduceLeDiff, hx']
      ((repeat refine W_seq ?_); refine W_region0 T5_ok ?_)
      simp (maxSteps := 1000000) only [x5_ty, x5_fn, x5_bin, x5_oi, x5_oc, x5_ok, VL, VM, ↓Gd_none, ↓Gd_t, ↓Gd_f, reduceIte, reduceCtorEq, Int.reduceLE, Int.reduceLT, Int.reduceToNat, Int.reduceNeg, Nat.reduceLT, Nat.reduceEqDiff, Nat.reduceAdd, Nat.reduceSub, Nat.reduceMul, Nat.reduceLeDiff]
      apply call_eq (f := 62) (fn := Try.f62) (by kernel_rfl) (by rfl)
      · exact copyInts_v k.away _ haw
      simp (maxSteps := 1000000) only [x5_ty, x5_fn, x5_bin, x5_oi, x5_oc, x5_ok, VL, VM, ↓Gd_none, ↓Gd_t, ↓Gd_f, reduceIte, reduceCtorEq, Int.reduceLE, Int.reduceLT, Int.reduceToNat, Int.reduceNeg, Nat.reduceLT, Nat.reduceEqDiff, Nat.reduceAdd, Nat.reduceSub, Nat.reduceMul, Nat.reduceLeDiff]
      ((repeat refine W_seq ?_); refine W_region0 T5_ok ?_)
      simp (maxSteps := 1000000) only [x5_ty, x5_fn, x5_bin, x5_oi, x5_oc, x5_ok, VL, VM, ↓Gd_none, ↓Gd_t, ↓Gd_f, reduceIte, reduceCtorEq, Int.reduceLE, Int.reduceLT, Int.reduceToNat, Int.reduceNeg, Nat.reduceLT, Nat.reduceEqDiff, Nat.reduceAdd, Nat.reduceSub, Nat.reduceMul, Nat.reduceLeDiff, e1, q3, hA]
      ((repeat refine W_seq ?_); refine W_region0 T5_ok ?_)
      simp (maxSteps := 1000000) only [x5_ty, x5_fn, x5_bin, x5_oi, x5_oc, x5_ok, VL, VM, ↓Gd_none, ↓Gd_t, ↓Gd_f, reduceIte, reduceCtorEq, Int.reduceLE, Int.reduceLT, Int.reduceToNat, Int.reduceNeg, Nat.reduceLT, Nat.reduceEqDiff, Nat.reduceAdd, Nat.reduceSub, Nat.reduceMul, Nat.reduceLeDiff, k1]
      refine LoopK.mk ⟨i + 1, junk ++ [VObj.obj [vi k.lo, vi k.hi, vb k.water, intsV k.away, vi k.rent, vi k.most]]⟩ (by simp only; omega) (by simp only; omega) ⟨rfl, rfl, rfl, rfl, trivial⟩ ?_
      simp only
      rw [s1]
      simp
    have k2 : ((i : Int) < (h.kinds.length : Int)) = False := eq_false (by omega)
    obtain rfl : i = h.kinds.length := by omega
    simp (maxSteps := 1000000) only [x5_ty, x5_fn, x5_bin, x5_oi, x5_oc, x5_ok, VL, VM, ↓Gd_none, ↓Gd_t, ↓Gd_f, reduceIte, reduceCtorEq, Int.reduceLE, Int.reduceLT, Int.reduceToNat, Int.reduceNeg, Nat.reduceLT, Nat.reduceEqDiff, Nat.reduceAdd, Nat.reduceSub, Nat.reduceMul, Nat.reduceLeDiff, k2]
    ((repeat refine W_seq ?_); refine W_cond (b := false) (by first | rfl | simp only [ev, get_cons, Nat.reduceEqDiff, if_true, if_false, reduceIte]) (fun h => by cases h) (fun _ => ?_))
    ((repeat refine W_seq ?_); refine W_exit ?_)
    simp (maxSteps := 1000000) only [x5_ty, x5_fn, x5_bin, x5_oi, x5_oc, x5_ok, VL, VM, ↓Gd_none, ↓Gd_t, ↓Gd_f, reduceIte, reduceCtorEq, Int.reduceLE, Int.reduceLT, Int.reduceToNat, Int.reduceNeg, Nat.reduceLT, Nat.reduceEqDiff, Nat.reduceAdd, Nat.reduceSub, Nat.reduceMul, Nat.reduceLeDiff]
    ((repeat refine W_seq ?_); refine W_region0 T5_ok ?_)
    simp (maxSteps := 1000000) only [x5_ty, x5_fn, x5_bin, x5_oi, x5_oc, x5_ok, VL, VM, ↓Gd_none, ↓Gd_t, ↓Gd_f, reduceIte, reduceCtorEq, Int.reduceLE, Int.reduceLT, Int.reduceToNat, Int.reduceNeg, Nat.reduceLT, Nat.reduceEqDiff, Nat.reduceAdd, Nat.reduceSub, Nat.reduceMul, Nat.reduceLeDiff]
    (repeat refine W_seq ?_)
    refine W_ret ?_
    try simp only [thenQ, blockQ]
    rw [List.take_length]
    obtain ⟨X, h1, h2⟩ := hCX
    obtain ⟨Y, y1, y2⟩ := addLg_Y (M.H.length + 1) [M.H.length + 2, M.H.length + 3, M.H.length + 4] lgC
    refine ⟨.inr (by trivial), by trivial, [bufHall h (M.H.length + 2)], ?_, ⟨junk, _, rfl, ⟨X ++ Y, by rw [y1, h1]; simp, fun e he => ?_⟩, rfl⟩⟩
    · simp [Try.f18, vresL, vload, x5_ty, t_hall, get_cons, hget, hget0, nat_ble, strip1]
    · rcases List.mem_append.1 he with he | he
      · exact h2 e he
      · obtain ⟨a, b⟩ := y2 e he
        simp only [List.mem_cons, List.not_mem_nil, or_false] at b
        obtain ⟨e1, e2⟩ := e
        simp only at a b
        subst a
        rcases b with rfl | rfl | rfl <;> simp
  · rintro hlg r M' ⟨J, lg, rfl, ⟨X, rfl, hX⟩, rfl⟩
    have hfz : ∀ H, frz (M.H.length + 6) H (bufHall h (M.H.length + 2)) = bufHall h (M.H.length + 2) := by
      intro H
      have g1 : Nat.ble (M.H.length + 6) (M.H.length + 2) = false := by rw [← Bool.not_eq_true, Nat.ble_eq]; omega
      have g2 : Nat.ble (M.H.length + 6) (M.H.length + 2 + 1) = false := by rw [← Bool.not_eq_true, Nat.ble_eq]; omega
      have g3 : Nat.ble (M.H.length + 6) (M.H.length + 2 + 2) = false := by rw [← Bool.not_eq_true, Nat.ble_eq]; omega
      simp only [bufHall, bufC, frz, frzL, g1, g2, g3, cond_false]
    refine ⟨M.H.length + 6, M.lg ++ ownG M.H.length, by omega, by simp, fun e he h1 => ?_, fun e he => ?_, fun x hx => ?_, ?_, ?_⟩
    · rcases List.mem_append.1 he with he | he
      · have := hlg e he
        exact ⟨by omega, List.mem_append_left _ he⟩
      · have := hX e he
        refine ⟨?_, List.mem_append_right _ this⟩
        simp only [ownG, List.mem_cons, List.not_mem_nil, or_false] at this
        rcases this with rfl | rfl | rfl | rfl | rfl | rfl | rfl <;> simp only <;> omega
    · rcases List.mem_append.1 he with he | he
      · have := hlg e he
        omega
      · simp only [ownG, List.mem_cons, List.not_mem_nil, or_false] at he
        rcases he with rfl | rfl | rfl | rfl | rfl | rfl | rfl <;> exact ⟨by simp only; omega, by simp only; omega⟩
    · rw [hfz] at hx
      simp only [bufHall, bufC, refs, refsL, List.append_nil, List.nil_append, List.cons_append, List.mem_cons, List.not_mem_nil, or_false] at hx
      omega
    · congr 1
      rw [← List.append_assoc, List.take_append_of_le_length (by simp), List.take_of_length_le (by simp)]
    · exact hfz _
end Go.Proofs.Ytijcmgfblpokhaa.Vm

/- The law of the best layout, on values. (Vm) -/
namespace Go.Proofs.Ytijcmgfblpokhaa.Vm
open Go Go.Proofs
theorem InA.lay {h : Ha} {x : List Pu} (a : InA h x) (hv : hallErr h = 0) : layoutErr h x = 0 := layout_ok.2 ⟨hv, layErr_zero.2 (allowedB_iff.1 a.1).1⟩
theorem InA.len {h : Ha} {x : List Pu} (a : InA h x) : x.length ≤ 24 := (allowedB_iff.1 a.1).1.1
end Go.Proofs.Ytijcmgfblpokhaa.Vm

/- The reference's best layout, on values. (Vm) -/
namespace Go.Proofs.Ytijcmgfblpokhaa.Vm
open Go Go.Proofs
theorem cells_nodup {h : Ha} {l : List Pl} (e : cellsErr h l = 0) : (∀ c ∈ l, isPl h c = true) ∧ l.Nodup := by
  unfold cellsErr at e
  by_cases hb : 24 < l.length
  · rw [if_pos hb] at e; exact absurd e (by decide)
  rw [if_neg hb, firstErr_zero] at e
  have e' : ∀ k (hk : k < l.length), isPl h l[k] = true ∧ hasPl (l.take k) l[k] = false := by
    intro k hk
    have := e k hk
    unfold cellErr at this
    rw [List.getElem?_eq_getElem hk] at this
    simp only at this
    cases h1 : isPl h l[k]
    · rw [h1] at this; simp at this
    cases h2 : hasPl (l.take k) l[k]
    · exact ⟨rfl, rfl⟩
    · rw [h1, h2] at this; simp at this
  refine ⟨fun c hc => ?_, ?_⟩
  · obtain ⟨k, hk, rfl⟩ := List.getElem_of_mem hc
    exact (e' k hk).1
  · unfold List.Nodup
    rw [List.pairwise_iff_getElem]
    intro i j hi hj hij heq
    have h2 := (e' j hj).2
    unfold hasPl at h2
    have : l[j] ∈ l.take j := by
      rw [List.mem_take_iff_getElem]
      exact ⟨i, by omega, heq⟩
    rw [List.contains_iff_mem.2 this] at h2
    cases h2
theorem plLt_ne {a b : Pl} (h : plLt a b) : a ≠ b := fun e => plLt_irrefl (e ▸ h)
theorem place_mem {h : Ha} {c : Pl} (e : isPl h c = true) : c ∈ placesL h := by
  unfold isPl at e
  simp only [Bool.and_eq_true, inR_true] at e
  unfold placesL rowsOf rowOf
  rw [List.mem_flatMap]
  refine ⟨c.y.toNat, List.mem_range.2 (by omega), List.mem_map.2 ⟨c.x.toNat, List.mem_range.2 (by omega), ?_⟩⟩
  obtain ⟨a, b⟩ := c
  simp only at e ⊢
  rw [Int.toNat_of_nonneg (by omega), Int.toNat_of_nonneg (by omega)]
end Go.Proofs.Ytijcmgfblpokhaa.Vm

/- Stronger vaults, lighter stalls: plain facts. (Vm) -/
namespace Go.Proofs.Ytijcmgfblpokhaa.Vm
open Go Go.Proofs
structure KStr (k k' : Ki) : Prop where
  lo : k'.lo ≤ k.lo
  hi : k'.hi ≤ k.hi
  water : k'.water = k.water
  away : ∀ j, k'.away.getD j 0 ≤ k.away.getD j 0
  rent : k.rent ≤ k'.rent
  most : k.most ≤ k'.most
structure HStr (h x : Ha) : Prop where
  wide : x.wide = h.wide
  deep : x.deep = h.deep
  water : x.water = h.water
  shut : x.shut = h.shut
  bay : x.bay = h.bay
  blen : x.bears.length = h.bears.length
  bears : ∀ i, h.bears.getD i 0 ≤ x.bears.getD i 0
  klen : x.kinds.length = h.kinds.length
  kinds : ∀ (i : Nat) (k k' : Ki), h.kinds[i]? = some k → x.kinds[i]? = some k' → KStr k k'
theorem HStr.kAt {h x : Ha} (S : HStr h x) {n : Int} (h0 : 0 ≤ n) (h1 : n < h.kinds.length) : KStr (kAt h n) (Go.Proofs.Ytijcmgfblpokhaa.kAt x n) := by
  have e1 : h.kinds[n.toNat]? = some (Go.Proofs.Ytijcmgfblpokhaa.kAt h n) := by
    unfold Go.Proofs.Ytijcmgfblpokhaa.kAt
    rw [List.getD_eq_getElem?_getD, List.getElem?_eq_getElem (show n.toNat < h.kinds.length by omega)]; rfl
  have e2 : x.kinds[n.toNat]? = some (Go.Proofs.Ytijcmgfblpokhaa.kAt x n) := by
    unfold Go.Proofs.Ytijcmgfblpokhaa.kAt
    have := S.klen
    rw [List.getD_eq_getElem?_getD, List.getElem?_eq_getElem (show n.toNat < x.kinds.length by omega)]; rfl
  exact S.kinds _ _ _ e1 e2
theorem HStr.isPl {h x : Ha} (S : HStr h x) (c : Pl) : isPl x c = Go.Proofs.Ytijcmgfblpokhaa.isPl h c := by
  unfold Go.Proofs.Ytijcmgfblpokhaa.isPl
  rw [S.wide, S.deep]
theorem HStr.isKind {h x : Ha} (S : HStr h x) (n : Int) : isKind x n = Go.Proofs.Ytijcmgfblpokhaa.isKind h n := by
  unfold Go.Proofs.Ytijcmgfblpokhaa.isKind
  rw [S.klen]
theorem HStr.bayOf {h x : Ha} (S : HStr h x) (c : Pl) : bayOf x c = Go.Proofs.Ytijcmgfblpokhaa.bayOf h c := by
  unfold Go.Proofs.Ytijcmgfblpokhaa.bayOf colsOf
  rw [S.wide, S.bay]
theorem sum_le {α : Type} {f g : α → Int} : ∀ {l : List α}, (∀ p ∈ l, f p ≤ g p) → (l.map f).sum ≤ (l.map g).sum
  | [], _ => Int.le_refl _
  | p :: l, h => by
    have h1 := h p (List.mem_cons_self ..)
    have h2 := sum_le (l := l) fun q hq => h q (List.mem_cons_of_mem _ hq)
    simp only [List.map_cons, List.sum_cons]
    omega
theorem HStr.rent {h x : Ha} (S : HStr h x) {l : List Pu} (hg : ∀ o ∈ l, Go.Proofs.Ytijcmgfblpokhaa.isKind h o.kind = true) : rentOf h l ≤ rentOf x l := by
  unfold rentOf
  refine sum_le fun p hp => ?_
  have := hg p hp
  unfold Go.Proofs.Ytijcmgfblpokhaa.isKind at this
  rw [inR_true] at this
  exact (S.kAt this.1 (by omega)).rent
theorem HStr.lay {h x : Ha} (S : HStr h x) {l : List Pu} (hl : LayOk h l) : LayOk x l := by
  have hk : ∀ o ∈ l, 0 ≤ o.kind ∧ o.kind < h.kinds.length := fun o ho => by
    have := (hl.good o ho).2
    unfold Go.Proofs.Ytijcmgfblpokhaa.isKind at this
    rw [inR_true] at this
    omega
  refine ⟨hl.1, fun p hp => ?_, ?_, fun k q hq => ?_⟩
  · have h1 := hl.2.1 p hp
    obtain ⟨k0, k1⟩ := hk p hp
    unfold ownB at h1 ⊢
    rw [S.isPl, S.shut, S.isKind, S.water, (S.kAt k0 k1).water]
    exact h1
  · have hp := hl.2.2.1
    rw [List.pairwise_iff_getElem] at hp ⊢
    intro i j hi hj hij
    obtain ⟨c1, c2⟩ := hp i j hi hj hij
    refine ⟨c1, ?_⟩
    obtain ⟨a0, a1⟩ := hk _ (List.getElem_mem hi)
    obtain ⟨b0, b1⟩ := hk _ (List.getElem_mem hj)
    generalize l[i] = o at c1 c2 a0 a1
    generalize l[j] = p at c1 c2 b0 b1
    have s1 := (S.kAt a0 a1).away p.kind.toNat
    have s2 := (S.kAt b0 b1).away o.kind.toNat
    unfold clash at c2 ⊢
    rw [decide_eq_false_iff_not] at c2 ⊢
    unfold awAt at c2 ⊢
    omega
  · have hlt := (List.getElem?_eq_some_iff.1 hq).1
    rw [S.klen] at hlt
    have h1 := List.getElem?_eq_getElem hlt
    have h2 := hl.2.2.2 k _ h1
    have h3 := (S.kinds k _ q h1 hq).most
    omega
end Go.Proofs.Ytijcmgfblpokhaa.Vm

/- A hall that is mirrored: plain facts. (Vm) -/
namespace Go.Proofs.Ytijcmgfblpokhaa.Vm
open Go Go.Proofs
def mir (w : Int) (c : Pl) : Pl := ⟨w - 1 - c.x, c.y⟩
def mirP (w : Int) (p : Pu) : Pu := ⟨mir w p.pl, p.kind⟩
def mirI (n i : Nat) : Nat := i / n * n + (n - 1 - i % n)
def mirH (h : Ha) : Ha := { h with water := h.water.map (mir h.wide), shut := h.shut.map (mir h.wide), bears := (List.range h.bears.length).map fun i => h.bears.getD (mirI (h.wide / h.bay.x).toNat i) 0 }
theorem mir_mir (w : Int) (c : Pl) : mir w (mir w c) = c := by
  obtain ⟨a, b⟩ := c
  unfold mir
  simp only
  rw [show w - 1 - (w - 1 - a) = a by omega]
theorem mir_inj {w : Int} {a b : Pl} (e : mir w a = mir w b) : a = b := by rw [← mir_mir w a, e, mir_mir]
theorem mirI_lt {n q r : Nat} (hr : r < n) : mirI n (q * n + r) = q * n + (n - 1 - r) := by
  unfold mirI
  have h1 : (q * n + r) / n = q := by
    rw [Nat.mul_comm, Nat.mul_add_div (by omega), Nat.div_eq_of_lt hr]; rfl
  have h2 : (q * n + r) % n = r := by
    rw [Nat.mul_comm, Nat.mul_add_mod, Nat.mod_eq_of_lt hr]
  rw [h1, h2]
theorem mirI_split {n : Nat} (hn : 0 < n) (i : Nat) : ∃ q r, r < n ∧ i = q * n + r := ⟨i / n, i % n, Nat.mod_lt _ hn, by rw [Nat.mul_comm]; exact (Nat.div_add_mod i n).symm⟩
theorem mirI_mirI {n : Nat} (hn : 0 < n) (i : Nat) : mirI n (mirI n i) = i := by
  obtain ⟨q, r, hr, rfl⟩ := mirI_split hn i
  rw [mirI_lt hr, mirI_lt (show n - 1 - r < n by omega)]
  omega
theorem mirI_bound {n m i : Nat} (hn : 0 < n) (hi : i < m * n) : mirI n i < m * n := by
  obtain ⟨q, r, hr, rfl⟩ := mirI_split hn i
  rw [mirI_lt hr]
  have hq : q < m := by
    apply Decidable.byContradiction
    intro h
    have := Nat.mul_le_mul_right n (show m ≤ q by omega)
    omega
  have := Nat.mul_le_mul_right n (show q + 1 ≤ m by omega)
  rw [Nat.succ_mul] at this
  omega
theorem far_mir (w : Int) (a b : Pl) : farOf (mir w a) (mir w b) = farOf a b := by
  unfold farOf mir
  simp only
  rw [show w - 1 - a.x - (w - 1 - b.x) = b.x - a.x by omega, show w - 1 - b.x - (w - 1 - a.x) = a.x - b.x by omega, Int.max_comm]
theorem has_mir (w : Int) (l : List Pl) (c : Pl) : hasPl (l.map (mir w)) (mir w c) = hasPl l c := by
  unfold hasPl
  cases h : l.contains c with
  | true =>
    rw [List.contains_iff_mem] at h ⊢
    exact List.mem_map.2 ⟨c, h, rfl⟩
  | false =>
    cases h2 : (l.map (mir w)).contains (mir w c) with
    | false => rfl
    | true =>
      rw [List.contains_iff_mem] at h2
      obtain ⟨d, hd, e⟩ := List.mem_map.1 h2
      rw [mir_inj e] at hd
      rw [List.contains_iff_mem.2 hd] at h
      cases h
section
variable {h : Ha}
theorem isPl_mir (c : Pl) : isPl (mirH h) (mir h.wide c) = isPl h c := by
  unfold isPl mirH mir inR
  simp only
  congr 1
  by_cases e : 0 ≤ c.x ∧ c.x ≤ h.wide - 1
  · rw [decide_eq_true e, decide_eq_true (by omega)]
  · rw [decide_eq_false e, decide_eq_false (by omega)]
theorem clash_mir (o p : Pu) : clash (mirH h) (mirP h.wide o) (mirP h.wide p) = clash h o p := by
  unfold clash mirP
  simp only [far_mir]
  rfl
theorem many_mir (l : List Pu) (k : Nat) : manyOf (l.map (mirP h.wide)) k = manyOf l k := by
  unfold manyOf
  rw [List.filter_map, List.length_map]
  rfl
theorem rent_mir (l : List Pu) : rentOf (mirH h) (l.map (mirP h.wide)) = rentOf h l := by
  unfold rentOf
  rw [List.map_map]
  rfl
theorem lay_mir {l : List Pu} (hl : LayOk h l) : LayOk (mirH h) (l.map (mirP h.wide)) := by
  refine ⟨by rw [List.length_map]; exact hl.1, fun p hp => ?_, ?_, fun k q hq => ?_⟩
  · obtain ⟨o, ho, rfl⟩ := List.mem_map.1 hp
    have h1 := hl.2.1 o ho
    unfold ownB at h1 ⊢
    have e1 : isPl (mirH h) (mirP h.wide o).pl = isPl h o.pl := isPl_mir o.pl
    have e2 : hasPl (mirH h).shut (mirP h.wide o).pl = hasPl h.shut o.pl := has_mir h.wide h.shut o.pl
    have e3 : hasPl (mirH h).water (mirP h.wide o).pl = hasPl h.water o.pl := has_mir h.wide h.water o.pl
    rw [e1, e2, e3]
    exact h1
  · rw [List.pairwise_map]
    refine hl.2.2.1.imp fun {a b} c => ⟨fun e => c.1 (mir_inj e), ?_⟩
    rw [clash_mir]; exact c.2
  · rw [many_mir]
    exact hl.2.2.2 k q hq
theorem bear_mir {i : Nat} (hi : i < h.bears.length) : (mirH h).bears.getD i 0 = h.bears.getD (mirI (h.wide / h.bay.x).toNat i) 0 := by
  unfold mirH
  simp only
  rw [List.getD_eq_getElem?_getD, List.getElem?_map, List.getElem?_range hi]
  rfl
theorem blen_mir : (mirH h).bears.length = h.bears.length := by unfold mirH; simp
theorem all_same {f g : Nat → Bool} {n : Nat} (e : ∀ i, i < n → f i = g i) : (List.range n).all f = (List.range n).all g := by
  induction n with
  | zero => rfl
  | succ n ih => rw [List.range_succ, List.all_append, List.all_append, ih fun i hi => e i (by omega)]; simp [e n (by omega)]
variable (V : VH h) (hdiv : h.wide % h.bay.x = 0)
include V hdiv
theorem cols_mir : (0 : Int) < h.wide / h.bay.x ∧ colsOf h = h.wide / h.bay.x ∧ h.wide = h.wide / h.bay.x * h.bay.x := by
  have x1 := V.x1
  have w1 := V.w1
  have hm : h.wide = h.wide / h.bay.x * h.bay.x := by
    have := Int.mul_ediv_add_emod h.wide h.bay.x
    rw [hdiv, Int.add_zero, Int.mul_comm] at this
    exact this.symm
  refine ⟨?_, ?_, hm⟩
  · apply Decidable.byContradiction
    intro hn
    have : h.wide / h.bay.x * h.bay.x ≤ 0 := Int.mul_nonpos_of_nonpos_of_nonneg (by omega) (by omega)
    omega
  · unfold colsOf
    generalize hq : h.wide / h.bay.x = q at hm
    rw [hm, show q * h.bay.x + h.bay.x - 1 = (h.bay.x - 1) + q * h.bay.x by omega, Int.add_mul_ediv_right _ _ (by omega), Int.ediv_eq_zero_of_lt (by omega) (by omega)]
    omega
theorem bay_mir {c : Pl} (hc : isPl h c = true) : bayOf (mirH h) (mir h.wide c) = ((mirI (h.wide / h.bay.x).toNat (bayOf h c).toNat : Nat) : Int) := by
  obtain ⟨n0, n1, n2⟩ := cols_mir V hdiv
  have x1 := V.x1
  have y1 := V.y1
  unfold isPl at hc
  simp only [Bool.and_eq_true, inR_true] at hc
  have e : bayOf (mirH h) (mir h.wide c) = c.y / h.bay.y * colsOf h + (h.wide - 1 - c.x) / h.bay.x := rfl
  have e' : bayOf h c = c.y / h.bay.y * colsOf h + c.x / h.bay.x := rfl
  rw [e, e', n1]
  obtain ⟨n, hn⟩ := Int.eq_ofNat_of_zero_le (show 0 ≤ h.wide / h.bay.x by omega)
  rw [hn] at n0 n2 ⊢
  obtain ⟨q, hq⟩ := Int.eq_ofNat_of_zero_le (Int.ediv_nonneg hc.2.1 (show 0 ≤ h.bay.y by omega))
  obtain ⟨r, hr⟩ := Int.eq_ofNat_of_zero_le (Int.ediv_nonneg hc.1.1 (show 0 ≤ h.bay.x by omega))
  have hrn : r < n := by
    have : c.x / h.bay.x < (n : Int) := by
      rw [Int.ediv_lt_iff_lt_mul (by omega)]
      omega
    omega
  have hmr : (h.wide - 1 - c.x) / h.bay.x = (n : Int) - 1 - r := by
    have h1 := Int.mul_ediv_add_emod c.x h.bay.x
    have h2 := Int.emod_nonneg c.x (show h.bay.x ≠ 0 by omega)
    have h3 := Int.emod_lt_of_pos c.x (show 0 < h.bay.x by omega)
    rw [hr] at h1
    generalize c.x % h.bay.x = s at h1 h2 h3
    have h4 : h.wide - 1 - c.x = (h.bay.x - 1 - s) + ((n : Int) - 1 - r) * h.bay.x := by
      rw [Int.sub_mul, Int.sub_mul, Int.one_mul, ← n2, ← h1, Int.mul_comm h.bay.x]
      omega
    rw [h4, Int.add_mul_ediv_right _ _ (by omega), Int.ediv_eq_zero_of_lt (by omega) (by omega), Int.zero_add]
  rw [hmr, hq, hr]
  have e2 : ((q : Int) * (n : Int) + (r : Int)).toNat = q * n + r := by
    rw [← Int.natCast_mul, ← Int.natCast_add, Int.toNat_natCast]
  rw [e2, Int.toNat_natCast, mirI_lt hrn, Int.natCast_add, Int.natCast_mul]
  omega
theorem bays_mir : ∃ m n : Nat, 0 < n ∧ h.bears.length = m * n ∧ (h.wide / h.bay.x).toNat = n := by
  obtain ⟨n0, n1, n2⟩ := cols_mir V hdiv
  have hb := V.bears
  have e : baysOf h = colsOf h * ((h.deep + h.bay.y - 1) / h.bay.y) := rfl
  have d1 := V.d1
  have y1 := V.y1
  rw [e, n1] at hb
  obtain ⟨n, hn⟩ := Int.eq_ofNat_of_zero_le (show 0 ≤ h.wide / h.bay.x by omega)
  obtain ⟨m, hm⟩ := Int.eq_ofNat_of_zero_le (Int.ediv_nonneg (show 0 ≤ h.deep + h.bay.y - 1 by omega) (show 0 ≤ h.bay.y by omega))
  rw [hn] at hb n0 ⊢
  rw [hm, ← Int.natCast_mul] at hb
  refine ⟨m, n, by omega, ?_, by simp⟩
  rw [Nat.mul_comm]
  exact Int.ofNat.inj hb
theorem load_mir {l : List Pu} (hl : ∀ o ∈ l, GoodP h o) {i : Nat} (hi : i < h.bears.length) : loadAt (mirH h) (l.map (mirP h.wide)) i = loadAt h l (mirI (h.wide / h.bay.x).toNat i) := by
  obtain ⟨m, n, n0, hbl, hn⟩ := bays_mir V hdiv
  have key : ∀ o ∈ l, (bayOf (mirH h) (mirP h.wide o).pl = (i : Int)) ↔ bayOf h o.pl = ((mirI (h.wide / h.bay.x).toNat i : Nat) : Int) := by
    intro o ho
    have hb := bay_in V (hl o ho).1
    have e : bayOf (mirH h) (mirP h.wide o).pl = _ := bay_mir V hdiv (hl o ho).1
    rw [e, hn]
    constructor
    · intro q
      have q' : mirI n (bayOf h o.pl).toNat = i := by exact_mod_cast q
      rw [← q', mirI_mirI n0]
      omega
    · intro q
      rw [q, Int.toNat_natCast, mirI_mirI n0]
  have hf : (l.map (mirP h.wide)).filter (fun p => decide (bayOf (mirH h) p.pl = (i : Int))) = (l.filter fun p => decide (bayOf h p.pl = ((mirI (h.wide / h.bay.x).toNat i : Nat) : Int))).map (mirP h.wide) := by
    rw [List.filter_map]
    congr 1
    apply List.filter_congr
    intro o ho
    exact decide_eq_decide.2 (key o ho)
  unfold loadAt
  rw [hf, List.map_map, List.map_map]
  rfl
theorem mirI_in {i : Nat} (hi : i < h.bears.length) : mirI (h.wide / h.bay.x).toNat i < h.bears.length := by
  obtain ⟨m, n, n0, hbl, hn⟩ := bays_mir V hdiv
  rw [hbl] at hi ⊢
  rw [hn]
  exact mirI_bound n0 hi
theorem all_mir (p : Nat → Bool) : (List.range h.bears.length).all (fun i => p (mirI (h.wide / h.bay.x).toNat i)) = (List.range h.bears.length).all p := by
  obtain ⟨m, n, n0, hbl, hn⟩ := bays_mir V hdiv
  have key : (∀ i, i < h.bears.length → p (mirI (h.wide / h.bay.x).toNat i) = true) ↔ ∀ i, i < h.bears.length → p i = true := by
    constructor
    · intro q i hi
      have := q _ (mirI_in V hdiv hi)
      rw [hn] at this
      rwa [mirI_mirI n0] at this
    · intro q i hi
      exact q _ (mirI_in V hdiv hi)
  cases h1 : (List.range h.bears.length).all p with
  | true =>
    rw [List.all_eq_true] at h1 ⊢
    intro i hi
    exact key.2 (fun j hj => h1 j (List.mem_range.2 hj)) i (List.mem_range.1 hi)
  | false =>
    cases h2 : (List.range h.bears.length).all (fun i => p (mirI (h.wide / h.bay.x).toNat i)) with
    | false => rfl
    | true =>
      rw [List.all_eq_true] at h2
      have h3 : (List.range h.bears.length).all p = true := by
        rw [List.all_eq_true]
        intro i hi
        exact key.1 (fun j hj => h2 j (List.mem_range.2 hj)) i (List.mem_range.1 hi)
      rw [h3] at h1; cases h1
theorem verdict_mir {l : List Pu} (hl : ∀ o ∈ l, GoodP h o) : verdictOf (mirH h) (l.map (mirP h.wide)) = verdictOf h l := by
  have e1 : fitsHi (mirH h) (l.map (mirP h.wide)) (mirH h).bears.length = fitsHi h l h.bears.length := by
    unfold fitsHi
    rw [blen_mir]
    refine (all_same fun i hi => ?_).trans (all_mir V hdiv fun i => decide ((loadAt h l i).hi ≤ h.bears.getD i 0))
    rw [load_mir V hdiv hl hi, bear_mir hi]
  have e2 : fitsLo (mirH h) (l.map (mirP h.wide)) (mirH h).bears.length = fitsLo h l h.bears.length := by
    unfold fitsLo
    rw [blen_mir]
    refine (all_same fun i hi => ?_).trans (all_mir V hdiv fun i => decide ((loadAt h l i).lo ≤ h.bears.getD i 0))
    rw [load_mir V hdiv hl hi, bear_mir hi]
  unfold verdictOf
  rw [e1, e2]
theorem allowed_mir {l : List Pu} (ha : allowedB h l = true) : allowedB (mirH h) (l.map (mirP h.wide)) = true := by
  rw [allowedB_iff] at *
  exact ⟨lay_mir ha.1, by rw [verdict_mir V hdiv ha.1.good]; exact ha.2⟩
end
theorem kind_zero {h : Ha} {k : Ki} (v : VK h k) : kindErr h k = 0 := by
  obtain ⟨g1, g2, g3, g4, g5, g6, g7, g8, g9⟩ := v
  have a1 : inR k.lo 0 1000000 = true := inR_true.2 (by omega)
  have a2 : inR k.hi 0 1000000 = true := inR_true.2 (by omega)
  have a3 : inR k.rent 0 1000000 = true := inR_true.2 (by omega)
  have a4 : inR k.most 0 24 = true := inR_true.2 (by omega)
  have a5 : (k.away.any fun n => !inR n 0 9) = false := by
    rw [List.any_eq_false]
    intro n hn
    have := g5 n hn
    rw [inR_true.2 this]; simp
  unfold kindErr
  rw [a1, a2, a3, a4, a5, if_neg (by simp), if_neg (by omega), if_neg (by omega), if_neg (by simp), if_neg (by simp)]
theorem hall_zero {h : Ha} (V : VH h) : hallErr h = 0 := by
  have a1 : inR h.wide 1 6 = true := inR_true.2 ⟨V.w1, V.w2⟩
  have a2 : inR h.deep 1 4 = true := inR_true.2 ⟨V.d1, V.d2⟩
  have a3 : inR h.bay.x 1 h.wide = true := inR_true.2 ⟨V.x1, V.x2⟩
  have a4 : inR h.bay.y 1 h.deep = true := inR_true.2 ⟨V.y1, V.y2⟩
  have a5 : (h.bears.any fun n => !inR n 0 10000000) = false := by
    rw [List.any_eq_false]
    intro n hn
    rw [inR_true.2 (V.bearsIn n hn)]; simp
  have a6 : firstErr (kindErrAt h) h.kinds.length = 0 := by
    rw [firstErr_zero]
    intro i hi
    unfold kindErrAt
    rw [List.getElem?_eq_getElem hi]
    exact kind_zero (V.kind _ (List.getElem_mem hi))
  have k0 := V.kinds0
  have k6 := V.kinds6
  have hb := V.bears
  unfold hallErr
  rw [a1, a2, a3, a4, a5, a6, if_neg (by simp), if_neg (by simp [V.water]), if_neg (by simp [V.shut]), if_neg (by simp), if_neg (by simp [hb]), if_neg (by simp), if_neg (by omega), if_neg (by omega)]
theorem cells_zero {h : Ha} {l : List Pl} (h24 : l.length ≤ 24) (hp : ∀ c ∈ l, isPl h c = true) (hn : l.Nodup) : cellsErr h l = 0 := by
  unfold cellsErr
  rw [if_neg (by omega), firstErr_zero]
  intro k hk
  unfold cellErr
  rw [List.getElem?_eq_getElem hk]
  simp only
  rw [hp _ (List.getElem_mem hk), if_neg (by simp), if_neg]
  intro hc
  unfold hasPl at hc
  rw [List.contains_iff_mem, List.mem_take_iff_getElem] at hc
  obtain ⟨i, hi, e⟩ := hc
  unfold List.Nodup at hn
  rw [List.pairwise_iff_getElem] at hn
  exact hn i k (by omega) hk (by omega) e
theorem cells_len24 {h : Ha} {l : List Pl} (e : cellsErr h l = 0) : l.length ≤ 24 := by
  unfold cellsErr at e
  by_cases hb : 24 < l.length
  · rw [if_pos hb] at e; exact absurd e (by decide)
  · omega
theorem cells_mir {h : Ha} {l : List Pl} (e : cellsErr h l = 0) : cellsErr (mirH h) (l.map (mir h.wide)) = 0 := by
  obtain ⟨h1, h2⟩ := cells_nodup e
  refine cells_zero (by rw [List.length_map]; exact cells_len24 e) (fun c hc => ?_) ?_
  · obtain ⟨d, hd, rfl⟩ := List.mem_map.1 hc
    rw [isPl_mir]; exact h1 d hd
  · unfold List.Nodup at h2 ⊢
    rw [List.pairwise_map]
    exact h2.imp fun {a b} hab e => hab (mir_inj e)
theorem VH.mir {h : Ha} (V : VH h) (hdiv : h.wide % h.bay.x = 0) : VH (mirH h) := by
  refine ⟨V.w1, V.w2, V.d1, V.d2, V.x1, V.x2, V.y1, V.y2, cells_mir V.water, cells_mir V.shut, ?_, fun n hn => ?_, V.kinds0, V.kinds6, fun k hk => ?_⟩
  · rw [blen_mir]; exact V.bears
  · obtain ⟨i, hi, rfl⟩ := List.getElem_of_mem hn
    rw [blen_mir] at hi
    have h1 := bear_mir (h := h) hi
    rw [List.getD_eq_getElem?_getD, List.getElem?_eq_getElem (by rw [blen_mir]; exact hi), Option.getD_some] at h1
    rw [h1]
    have h2 := mirI_in V hdiv hi
    rw [List.getD_eq_getElem?_getD, List.getElem?_eq_getElem h2, Option.getD_some]
    exact V.bearsIn _ (List.getElem_mem h2)
  · obtain ⟨g1, g2, g3, g4, g5, g6, g7, g8, g9⟩ := V.kind k hk
    exact ⟨g1, g2, g3, g4, g5, g6, g7, g8, g9⟩
theorem mirH_mirH {h : Ha} (V : VH h) (hdiv : h.wide % h.bay.x = 0) : mirH (mirH h) = h := by
  have e1 : (mirH (mirH h)).water = h.water := by
    show (h.water.map (Vm.mir h.wide)).map (Vm.mir h.wide) = h.water
    rw [List.map_map]
    refine (List.map_congr_left fun c _ => ?_).trans (List.map_id _)
    exact mir_mir h.wide c
  have e2 : (mirH (mirH h)).shut = h.shut := by
    show (h.shut.map (Vm.mir h.wide)).map (Vm.mir h.wide) = h.shut
    rw [List.map_map]
    refine (List.map_congr_left fun c _ => ?_).trans (List.map_id _)
    exact mir_mir h.wide c
  have e3 : (mirH (mirH h)).bears = h.bears := by
    apply List.ext_getElem
    · rw [blen_mir, blen_mir]
    · intro i h1 h2
      have hi1 : i < (mirH h).bears.length := by rw [blen_mir]; exact h2
      have b1 := bear_mir (h := mirH h) hi1
      have hw : ((mirH h).wide / (mirH h).bay.x).toNat = (h.wide / h.bay.x).toNat := rfl
      rw [hw] at b1
      have b2 := bear_mir (h := h) (mirI_in V hdiv h2)
      obtain ⟨m, n, n0, hbl, hn⟩ := bays_mir V hdiv
      rw [hn] at b1 b2
      rw [mirI_mirI n0] at b2
      rw [b2] at b1
      rw [List.getD_eq_getElem?_getD, List.getElem?_eq_getElem h1, List.getD_eq_getElem?_getD, List.getElem?_eq_getElem h2] at b1
      exact b1
  have e0 : ∀ x y : Ha, x.wide = y.wide → x.deep = y.deep → x.water = y.water → x.shut = y.shut → x.bay = y.bay → x.bears = y.bears → x.kinds = y.kinds → x = y := by
    rintro ⟨a1, a2, a3, a4, a5, a6, a7⟩ ⟨b1, b2, b3, b4, b5, b6, b7⟩ h1 h2 h3 h4 h5 h6 h7
    simp only at h1 h2 h3 h4 h5 h6 h7
    subst h1 h2 h3 h4 h5 h6 h7
    rfl
  exact e0 _ _ rfl rfl e1 e2 rfl e3 rfl
theorem sort_ex : ∀ (L : List Pl), L.Nodup → ∀ m : List Pu, m.Pairwise (fun a b => a.pl ≠ b.pl) → (∀ p ∈ m, p.pl ∈ L) → ∃ l, m.Perm l ∧ (l.map Pu.pl).Sublist L
  | [], _, m, _, hp => by
    have : m = [] := List.eq_nil_iff_forall_not_mem.2 fun p hpm => by cases hp p hpm
    subst this
    exact ⟨[], List.Perm.refl _, List.Sublist.refl _⟩
  | c :: L, hn, m, hd, hp => by
    rw [List.nodup_cons] at hn
    by_cases hex : ∃ p ∈ m, p.pl = c
    · obtain ⟨p, hpm, rfl⟩ := hex
      have hperm := List.perm_cons_erase hpm
      have hd2 := (hperm.pairwise_iff (fun {a b} (e : a.pl ≠ b.pl) => Ne.symm e)).1 hd
      rw [List.pairwise_cons] at hd2
      obtain ⟨l, h1, h2⟩ := sort_ex L hn.2 (m.erase p) hd2.2 fun q hq => by
        rcases List.mem_cons.1 (hp q (List.mem_of_mem_erase hq)) with h | h
        · exact absurd h.symm (hd2.1 q hq)
        · exact h
      exact ⟨p :: l, hperm.trans (h1.cons p), by rw [List.map_cons]; exact h2.cons_cons _⟩
    · obtain ⟨l, h1, h2⟩ := sort_ex L hn.2 m hd fun q hq => by
        rcases List.mem_cons.1 (hp q hq) with h | h
        · exact absurd ⟨q, hq, h⟩ hex
        · exact h
      exact ⟨l, h1, h2.cons _⟩
theorem mir_inA {h : Ha} (V : VH h) (hdiv : h.wide % h.bay.x = 0) {a : List Pu} (ha : InA h a) : ∃ b, InA (mirH h) b ∧ rentOf (mirH h) b = rentOf h a ∧ b.length = a.length := by
  have hal := allowed_mir V hdiv ha.1
  have hlay := (allowedB_iff.1 hal).1
  have hno : (placesL (mirH h)).Nodup := (places_ord (mirH h)).imp fun q => plLt_ne q
  obtain ⟨b, h1, h2⟩ := sort_ex (placesL (mirH h)) hno (a.map (mirP h.wide)) (hlay.2.2.1.imp fun c => c.1) fun p hp => place_mem (hlay.good p hp).1
  refine ⟨b, ⟨allowedB_perm h1 hal, h2⟩, ?_, ?_⟩
  · rw [← rent_perm h1, rent_mir]
  · rw [← h1.length_eq, List.length_map]
/-- a mirrored hall's best layout earns as much, with as many puts -/
theorem mirror_best {h : Ha} (V : VH h) (hdiv : h.wide % h.bay.x = 0) : rentOf h (bestL h) = rentOf (mirH h) (bestL (mirH h)) ∧ (bestL h).length = (bestL (mirH h)).length := by
  have Vx := VH.mir V hdiv
  have hdx : (mirH h).wide % (mirH h).bay.x = 0 := hdiv
  obtain ⟨_, a1, a2⟩ := best_spec V
  obtain ⟨_, b1, b2⟩ := best_spec Vx
  obtain ⟨c, c1, c2, c3⟩ := mir_inA V hdiv a1
  obtain ⟨d, d1, d2, d3⟩ := mir_inA Vx hdx b1
  rw [mirH_mirH V hdiv] at d1 d2
  have e1 := b2 c c1
  have e2 := a2 d d1
  rcases e1 with e1 | ⟨e1, e1' | ⟨e1', _⟩⟩ <;> rcases e2 with e2 | ⟨e2, e2' | ⟨e2', _⟩⟩ <;> constructor <;> omega
end Go.Proofs.Ytijcmgfblpokhaa.Vm

/- A hall that is mirrored, on values. (Vm) -/
-- TABLE T5
namespace Go.Proofs.Ytijcmgfblpokhaa.Vm
open Go Go.Proofs
def frzA (n0 : Nat) (H : List VObj) : VV → VV
  | .agg cs => .agg (cs.map (frz n0 H))
  | v => frz n0 H v
theorem frzA_ok {G : Ghost} {w : World} {K : Nat → Option Nat} {M : Mem} (hI : Inv G w K M) {n0 : Nat} (hn : n0 ≤ M.H.length) {v : Value} {x : VV} (h : RepV w K M.H v x) (hr : ∀ r ∈ refs (frzA n0 M.H x), r < n0) : RepV w K (M.H.take n0) v (frzA n0 M.H x) := by
  cases x with
  | agg cs =>
    cases h with
    | agg vs cs hs h1 h =>
      refine .agg vs _ (by simp [hs]) h1 fun i v c hv hc => ?_
      rw [List.getElem?_map] at hc
      obtain ⟨c0, h0, rfl⟩ := Option.map_eq_some_iff.1 hc
      refine frz_ok hI hn (h i v c0 hv h0) (h i v c0 hv h0) fun r hr' => hr r ?_
      rw [frzA, refs]
      exact mem_refsL.2 ⟨_, List.mem_map.2 ⟨c0, List.mem_of_getElem? h0, rfl⟩, hr'⟩
  | _ => exact frz_ok hI hn h h hr
/-- as VC_cut, with the result's parts read out of what is cut off -/
theorem VC_cutA {P : Program} {f : Nat} {args : List VV} {M : Mem} {Q Q' : VV → Mem → Prop} (h : VC P f args M Q) (hq : (∀ e ∈ M.lg, e.1 < M.H.length ∧ e.2 < M.H.length) → ∀ r M', Q r M' → ∃ n lg', M.H.length ≤ n ∧ n ≤ M'.H.length ∧ (∀ e ∈ M'.lg, e.1 < n → e.2 < n ∧ e ∈ lg') ∧ (∀ e ∈ lg', e.1 < n ∧ e.2 < n) ∧ (∀ x ∈ refs (frzA n M'.H r), x < n) ∧ Q' (frzA n M'.H r) ⟨M'.H.take n, lg'⟩) : VC P f args M Q' := by
  intro G w K rargs hI ha
  refine (h G w K rargs hI ha).mono ?_
  intro e w'
  rintro ⟨rv, r, K', M', he, hQ, h1, h2, h3, h4⟩
  obtain ⟨n, lg', g1, g2, g3, g4, g5, g6⟩ := hq hI.lg r M' hQ
  refine ⟨rv, _, K', _, he, g6, frzA_ok h4 g2 h1 g5, fun q hq => ?_, ?_, inv_take h4 g2 g3 g4⟩
  · have := g5 q hq
    simp only [List.length_take]
    omega
  · refine h3.keep (keep_take n) (Nat.le_refl _) fun i hi => ⟨?_, rfl, fun _ _ => rfl⟩
    rw [List.getElem?_take_of_lt (by omega)]
theorem toPs_p : ∀ xs : List PV, toPs (xs.map VV.p) = some xs
  | [] => rfl
  | x :: xs => by simp [toPs, toP, toPs_p xs]
theorem chunks_flat (k : Nat) : ∀ (xs : List (List PV)) (pre : List VV), (∀ x ∈ xs, x.length = k) → toPss (chunksOf (pre ++ List.map VV.p xs.flatten) k pre.length xs.length) = some xs
  | [], _, _ => rfl
  | x :: xs, pre, h => by
    have hx := h x (List.mem_cons_self ..)
    have e1 : pre ++ List.map VV.p (x :: xs).flatten = (pre ++ x.map VV.p) ++ List.map VV.p xs.flatten := by simp
    have e2 : pre.length + k = (pre ++ x.map VV.p).length := by simp [hx]
    rw [List.length_cons, chunksOf, e1, e2, toPss, chunks_flat k xs (pre ++ x.map VV.p) (fun y hy => h y (List.mem_cons_of_mem _ hy))]
    have e3 : List.take k (List.drop pre.length (pre ++ x.map VV.p ++ List.map VV.p xs.flatten)) = x.map VV.p := by
      rw [List.append_assoc, List.drop_left, List.take_append_of_le_length (by simp [hx]), List.take_of_length_le (by simp [hx])]
    rw [e3, toPs_p]
theorem frz_bf {n0 id n k : Nat} {H : List VObj} {xs : List (List PV)} {cs : List VV} (h0 : n0 ≤ id) (hg : H[id]? = some (.obj cs)) (hcs : cs = List.map VV.p xs.flatten) (hk : ∀ x ∈ xs, x.length = k) (hn : xs.length = n) : frz n0 H (.bf id 0 n k) = .p (.sl k xs) := by
  subst hcs
  subst hn
  have hl : ∀ xs : List (List PV), (∀ x ∈ xs, x.length = k) → xs.flatten.length = xs.length * k := by
    intro xs
    induction xs with
    | nil => intro _; simp
    | cons x xs ih =>
      intro h
      rw [List.flatten_cons, List.length_append, ih fun y hy => h y (List.mem_cons_of_mem _ hy), h x (List.mem_cons_self ..), List.length_cons, Nat.succ_mul]
      omega
  have g1 : Nat.ble n0 id = true := by rw [Nat.ble_eq]; exact h0
  have g2 : Nat.ble (0 + xs.length * k) (List.map VV.p xs.flatten).length = true := by rw [Nat.ble_eq, List.length_map, hl xs hk]; omega
  have g3 := chunks_flat k xs [] hk
  simp only [List.nil_append, List.length_nil] at g3
  rw [frz, g1, cond_true, hg]
  simp only [g2, cond_true, g3]
def mirTo (w : Int) (i : Nat) (l : List Pl) : List Pl := (l.take i).map (mir w) ++ l.drop i
theorem mirTo_len (w : Int) (i : Nat) (l : List Pl) : (mirTo w i l).length = l.length := by
  unfold mirTo
  simp
  omega
theorem mirTo_get {w : Int} {i : Nat} {l : List Pl} {c : Pl} (h : l[i]? = some c) : (mirTo w i l)[i]? = some c := by
  have hl := (List.getElem?_eq_some_iff.1 h).1
  unfold mirTo
  rw [List.getElem?_append_right (by simp; omega)]
  simp only [List.length_map, List.length_take, List.getElem?_drop]
  rw [← h]
  congr 1
  omega
theorem mirTo_set {w : Int} {i : Nat} {l : List Pl} {c : Pl} (h : l[i]? = some c) : (mirTo w i l).set i (mir w c) = mirTo w (i + 1) l := by
  have hl := (List.getElem?_eq_some_iff.1 h).1
  unfold mirTo
  rw [List.set_append_right _ _ (by simp; omega), List.take_add_one, h]
  have e1 : l.drop i = c :: l.drop (i + 1) := by
    rw [List.drop_eq_getElem_cons hl]
    congr 1
    have := List.getElem?_eq_getElem hl
    rw [h] at this
    exact (Option.some.inj this).symm
  rw [e1]
  simp [Nat.min_eq_left (Nat.le_of_lt hl)]
theorem mirTo_all (w : Int) (l : List Pl) : mirTo w l.length l = l.map (mir w) := by simp [mirTo]
theorem mirTo_0 (w : Int) (l : List Pl) : mirTo w 0 l = l := by simp [mirTo]
theorem cells_get : ∀ {l : List Pl} {i : Nat} {c : Pl}, l[i]? = some c → (cellsC l)[i * 2]? = some (vi c.x) ∧ (cellsC l)[i * 2 + 1]? = some (vi c.y)
  | [], i, c, h => by cases h
  | d :: l, 0, c, h => by
    cases h
    exact ⟨rfl, rfl⟩
  | d :: l, i + 1, c, h => by
    have := cells_get (l := l) (i := i) (c := c) h
    rw [show (i + 1) * 2 = (i * 2 + 1) + 1 by omega]
    exact this
theorem cells_set : ∀ {l : List Pl} {i : Nat} {c : Pl} (x : Int), l[i]? = some c → (cellsC l).set (i * 2) (vi x) = cellsC (l.set i ⟨x, c.y⟩)
  | [], i, c, x, h => by cases h
  | d :: l, 0, c, x, h => by
    cases h
    rfl
  | d :: l, i + 1, c, x, h => by
    have := cells_set (l := l) (i := i) (c := c) x h
    rw [show (i + 1) * 2 = (i * 2 + 1) + 1 by omega]
    show vi d.x :: vi d.y :: (cellsC l).set (i * 2) (vi x) = _
    rw [this]
    rfl
theorem cellsC_len : ∀ (l : List Pl), (cellsC l).length = l.length * 2
  | [] => rfl
  | d :: l => by
    show (cellsC l).length + 1 + 1 = _
    rw [cellsC_len l, List.length_cons]
    omega
theorem cells_splice {l : List Pl} {i : Nat} {c : Pl} (x : Int) (h : l[i]? = some c) : List.map VV.p (List.take (i * 2) (List.map plP l).flatten) ++ vi x :: List.map VV.p (List.drop (i * 2 + 1) (List.map plP l).flatten) = cellsC (l.set i ⟨x, c.y⟩) := by
  rw [← cells_set x h, List.map_take, List.map_drop]
  have hl := (List.getElem?_eq_some_iff.1 h).1
  have := cellsC_len l
  rw [List.set_eq_take_append_cons_drop, if_pos (by omega)]
def brTo (n i : Nat) (l : List Int) : List Int := (List.range i).map (fun j => l.getD (mirI n j) 0) ++ l.drop i
theorem brTo_0 (n : Nat) (l : List Int) : brTo n 0 l = l := by simp [brTo]
theorem brTo_len {n i : Nat} {l : List Int} (h : i ≤ l.length) : (brTo n i l).length = l.length := by
  unfold brTo
  simp
  omega
theorem brTo_set {n i : Nat} {l : List Int} {x : Int} (hi : i < l.length) (h : l[mirI n i]? = some x) : brTo n (i + 1) l = (brTo n i l).take i ++ x :: (brTo n i l).drop (i + 1) := by
  unfold brTo
  rw [List.take_append_of_le_length (by simp), List.take_of_length_le (by simp), List.range_succ, List.map_append, List.append_assoc]
  congr 1
  have e1 : ((List.range i).map (fun j => l.getD (mirI n j) 0)).drop (i + 1) = [] := List.drop_of_length_le (by rw [List.length_map, List.length_range]; omega)
  rw [List.drop_append, e1, List.nil_append, List.length_map, List.length_range, List.drop_drop, show i + (i + 1 - i) = i + 1 by omega]
  simp only [List.map_cons, List.map_nil, List.cons_append, List.nil_append]
  rw [List.getD_eq_getElem?_getD, h]
  rfl
theorem brTo_all {n : Nat} (l : List Int) : brTo n l.length l = (List.range l.length).map fun j => l.getD (mirI n j) 0 := by
  unfold brTo
  rw [List.drop_length, List.append_nil]
theorem v_rem {t : Nat} {a b : Int} (h : 0 ≤ a ∧ a < 9223372036854775808) (hb : 1 ≤ b) : vbin T .rem t (vi a) (vi b) = some (vi (a % b)) := by
  have h2 : Go.binOp .rem 0 (.int .i64 a) (.int .i64 b) = .pure (.int .i64 (a.tmod b)) := by
    show Op.intDiv .rem .i64 a b = _
    unfold Op.intDiv
    rw [if_neg (by omega)]
    rfl
  simp only [vbin, h2, pureOf, Option.map_some, ofValue]
  rw [Int.tmod_eq_emod_of_nonneg h.1]
theorem pl_in {h : Ha} {c : Pl} (hc : isPl h c = true) : 0 ≤ c.x ∧ c.x < h.wide := by
  unfold isPl at hc
  simp only [Bool.and_eq_true, inR_true] at hc
  omega
theorem mirrored_v (h : Ha) (M : Mem) (F : Fin h) (V : VH h) (hdiv : h.wide % h.bay.x = 0) : VC Try.prog 48 [hallV h] M (fun r M' => M' = M ∧ r = hallV (mirH h)) := by
  have fw := F.water
  have fs := F.shut
  have fb := F.bears
  have fk := F.kinds
  refine VC_cutA (Q := fun r M' => ∃ lg, M' = ⟨M.H ++ [VObj.obj (hallC h), VObj.obj (bufC h (M.H.length + 4)), VObj.obj [vi h.wide, vi h.deep, .bf (M.H.length + 4) 0 h.water.length 2, .bf (M.H.length + 5) 0 h.shut.length 2, vi h.bay.x, vi h.bay.y, .bf (M.H.length + 6) 0 h.bears.length 1, .so (M.H.length + 7) 6 (h.kinds.map kiP)], VObj.obj (bufC h (M.H.length + 4)), VObj.obj (cellsC (h.water.map (mir h.wide))), VObj.obj (cellsC (h.shut.map (mir h.wide))), VObj.obj ((brTo (h.wide / h.bay.x).toNat h.bears.length h.bears).map vi), .clm h.kinds.length 6, VObj.obj (bufC h (M.H.length + 4))], lg⟩ ∧ (∃ X, lg = M.lg ++ X ∧ ∀ e ∈ X, M.H.length ≤ e.1) ∧ r = bufHall h (M.H.length + 4)) ?_ ?_
  rotate_left
  · rintro hlg r M' ⟨lg, rfl, ⟨X, rfl, hX⟩, rfl⟩
    have key : frzA M.H.length (M.H ++ [VObj.obj (hallC h), VObj.obj (bufC h (M.H.length + 4)), VObj.obj [vi h.wide, vi h.deep, .bf (M.H.length + 4) 0 h.water.length 2, .bf (M.H.length + 5) 0 h.shut.length 2, vi h.bay.x, vi h.bay.y, .bf (M.H.length + 6) 0 h.bears.length 1, .so (M.H.length + 7) 6 (h.kinds.map kiP)], VObj.obj (bufC h (M.H.length + 4)), VObj.obj (cellsC (h.water.map (mir h.wide))), VObj.obj (cellsC (h.shut.map (mir h.wide))), VObj.obj ((brTo (h.wide / h.bay.x).toNat h.bears.length h.bears).map vi), .clm h.kinds.length 6, VObj.obj (bufC h (M.H.length + 4))]) (bufHall h (M.H.length + 4)) = hallV (mirH h) := by
      have e1 := frz_bf (n0 := M.H.length) (id := M.H.length + 4) (n := h.water.length) (k := 2) (H := M.H ++ [VObj.obj (hallC h), VObj.obj (bufC h (M.H.length + 4)), VObj.obj [vi h.wide, vi h.deep, .bf (M.H.length + 4) 0 h.water.length 2, .bf (M.H.length + 5) 0 h.shut.length 2, vi h.bay.x, vi h.bay.y, .bf (M.H.length + 6) 0 h.bears.length 1, .so (M.H.length + 7) 6 (h.kinds.map kiP)], VObj.obj (bufC h (M.H.length + 4)), VObj.obj (cellsC (h.water.map (mir h.wide))), VObj.obj (cellsC (h.shut.map (mir h.wide))), VObj.obj ((brTo (h.wide / h.bay.x).toNat h.bears.length h.bears).map vi), .clm h.kinds.length 6, VObj.obj (bufC h (M.H.length + 4))]) (xs := (h.water.map (mir h.wide)).map plP) (by omega) (hget _ _ 4) rfl (by simp) (by simp)
      have e2 := frz_bf (n0 := M.H.length) (id := M.H.length + 5) (n := h.shut.length) (k := 2) (H := M.H ++ [VObj.obj (hallC h), VObj.obj (bufC h (M.H.length + 4)), VObj.obj [vi h.wide, vi h.deep, .bf (M.H.length + 4) 0 h.water.length 2, .bf (M.H.length + 5) 0 h.shut.length 2, vi h.bay.x, vi h.bay.y, .bf (M.H.length + 6) 0 h.bears.length 1, .so (M.H.length + 7) 6 (h.kinds.map kiP)], VObj.obj (bufC h (M.H.length + 4)), VObj.obj (cellsC (h.water.map (mir h.wide))), VObj.obj (cellsC (h.shut.map (mir h.wide))), VObj.obj ((brTo (h.wide / h.bay.x).toNat h.bears.length h.bears).map vi), .clm h.kinds.length 6, VObj.obj (bufC h (M.H.length + 4))]) (xs := (h.shut.map (mir h.wide)).map plP) (by omega) (hget _ _ 5) rfl (by simp) (by simp)
      have e3 := frz_bf (n0 := M.H.length) (id := M.H.length + 6) (n := h.bears.length) (k := 1) (H := M.H ++ [VObj.obj (hallC h), VObj.obj (bufC h (M.H.length + 4)), VObj.obj [vi h.wide, vi h.deep, .bf (M.H.length + 4) 0 h.water.length 2, .bf (M.H.length + 5) 0 h.shut.length 2, vi h.bay.x, vi h.bay.y, .bf (M.H.length + 6) 0 h.bears.length 1, .so (M.H.length + 7) 6 (h.kinds.map kiP)], VObj.obj (bufC h (M.H.length + 4)), VObj.obj (cellsC (h.water.map (mir h.wide))), VObj.obj (cellsC (h.shut.map (mir h.wide))), VObj.obj ((brTo (h.wide / h.bay.x).toNat h.bears.length h.bears).map vi), .clm h.kinds.length 6, VObj.obj (bufC h (M.H.length + 4))]) (xs := (brTo (h.wide / h.bay.x).toNat h.bears.length h.bears).map intP) (by omega) (hget _ _ 6) (flat_ints _).symm (by simp) (by rw [List.length_map, brTo_len (Nat.le_refl _)])
      simp only [bufHall, bufC, frzA, List.map_cons, List.map_nil, e1, e2, e3]
      simp only [frz, mirH, brTo_all, hallV]
    refine ⟨M.H.length, M.lg, Nat.le_refl _, by simp, fun e he h1 => ?_, hlg, fun x hx => ?_, ?_, ?_⟩
    · rcases List.mem_append.1 he with he | he
      · exact ⟨(hlg e he).2, he⟩
      · have := hX e he
        omega
    · rw [key] at hx
      simp [refs, refsL] at hx
    · simp
    · exact key
  refine VC_keep T5_ok (f := 48) (fn := Try.f48) (by rw [x5_fn]; kernel_rfl) rfl Try.ntmps48 (by rfl) (by rw [x5_keeps]; rfl) ?_
  ((repeat refine W_seq ?_); refine W_region0 T5_ok ?_)
  simp (maxSteps := 1000000) only [x5_ty, x5_fn, x5_bin, x5_oi, x5_oc, x5_ok, VL, VM, ↓Gd_none, ↓Gd_t, ↓Gd_f, reduceIte, reduceCtorEq, Int.reduceLE, Int.reduceLT, Int.reduceToNat, Int.reduceNeg, Nat.reduceLT, Nat.reduceEqDiff, Nat.reduceAdd, Nat.reduceSub, Nat.reduceMul, Nat.reduceLeDiff]
  ((repeat refine W_seq ?_); refine W_region0 T5_ok ?_)
  simp (maxSteps := 1000000) only [x5_ty, x5_fn, x5_bin, x5_oi, x5_oc, x5_ok, VL, VM, ↓Gd_none, ↓Gd_t, ↓Gd_f, reduceIte, reduceCtorEq, Int.reduceLE, Int.reduceLT, Int.reduceToNat, Int.reduceNeg, Nat.reduceLT, Nat.reduceEqDiff, Nat.reduceAdd, Nat.reduceSub, Nat.reduceMul, Nat.reduceLeDiff]
  apply call_eq (f := 18) (fn := Try.f18) (by kernel_rfl) (by rfl)
  · exact copyHall_own h _ F
  simp (maxSteps := 1000000) only [x5_ty, x5_fn, x5_bin, x5_oi, x5_oc, x5_ok, VL, VM, ↓Gd_none, ↓Gd_t, ↓Gd_f, reduceIte, reduceCtorEq, Int.reduceLE, Int.reduceLT, Int.reduceToNat, Int.reduceNeg, Nat.reduceLT, Nat.reduceEqDiff, Nat.reduceAdd, Nat.reduceSub, Nat.reduceMul, Nat.reduceLeDiff]
  ((repeat refine W_seq ?_); refine W_region0 T5_ok ?_)
  simp (maxSteps := 1000000) only [x5_ty, x5_fn, x5_bin, x5_oi, x5_oc, x5_ok, VL, VM, ↓Gd_none, ↓Gd_t, ↓Gd_f, reduceIte, reduceCtorEq, Int.reduceLE, Int.reduceLT, Int.reduceToNat, Int.reduceNeg, Nat.reduceLT, Nat.reduceEqDiff, Nat.reduceAdd, Nat.reduceSub, Nat.reduceMul, Nat.reduceLeDiff]
  have hw := V.w1
  have hw2 := V.w2
  obtain ⟨lgA, hA⟩ : ∃ lgA, lgA = addLg (M.H.length + 8) [M.H.length + 4, M.H.length + 5, M.H.length + 6] (M.lg ++ ownG (M.H.length + 2)) := ⟨_, rfl⟩
  rw [← hA]
  have hAX : ∃ X, lgA = M.lg ++ X ∧ ∀ e ∈ X, M.H.length ≤ e.1 := by
    obtain ⟨Y, y1, y2⟩ := addLg_Y (M.H.length + 8) [M.H.length + 4, M.H.length + 5, M.H.length + 6] (M.lg ++ ownG (M.H.length + 2))
    refine ⟨ownG (M.H.length + 2) ++ Y, by rw [hA, y1, List.append_assoc], fun e he => ?_⟩
    rcases List.mem_append.1 he with he | he
    · simp only [ownG, List.mem_cons, List.not_mem_nil, or_false] at he
      rcases he with rfl | rfl | rfl | rfl | rfl | rfl | rfl <;> simp only <;> omega
    · have := (y2 e he).1
      omega
  clear hA
  have c0 : ∀ c ∈ h.water, 0 ≤ c.x ∧ c.x < h.wide := fun c hc => pl_in ((cells_nodup V.water).1 c hc)
  have c1 : ∀ c ∈ h.shut, 0 ≤ c.x ∧ c.x < h.wide := fun c hc => pl_in ((cells_nodup V.shut).1 c hc)
  ((repeat refine W_seq ?_); refine W_block ?_; (repeat refine W_seq ?_)); refine W_loopS (fun i : Nat => [(1, .ptr M.H.length 0), (2, .ptr (M.H.length + 1) 0), (3, .ptr (M.H.length + 8) 0), (4, vi i)]) (fun i => ⟨M.H ++ [VObj.obj (hallC h), VObj.obj zeroHall, VObj.obj [vi h.wide, vi h.deep, .bf (M.H.length + 4) 0 h.water.length 2, .bf (M.H.length + 5) 0 h.shut.length 2, vi h.bay.x, vi h.bay.y, .bf (M.H.length + 6) 0 h.bears.length 1, .so (M.H.length + 7) 6 (h.kinds.map kiP)], VObj.obj (bufC h (M.H.length + 4)), VObj.obj (cellsC (mirTo h.wide i h.water)), VObj.obj (cellsC h.shut), VObj.obj (h.bears.map vi), .clm h.kinds.length 6, VObj.obj (bufC h (M.H.length + 4))], lgA⟩) (fun i => h.water.length - i) (fun i => i ≤ h.water.length) 0 (Nat.zero_le _) ⟨rfl, rfl, rfl, rfl, trivial⟩ (by rw [mirTo_0]) ?_
  intro i hi
  have k1 : -9223372036854775808 ≤ (i : Int) + 1 ∧ (i : Int) + 1 < 9223372036854775808 := by omega
  ((repeat refine W_seq ?_); refine W_region0 T5_ok ?_)
  rcases Nat.lt_or_ge i h.water.length with hlt | hge
  · have k2 : ((i : Int) < (h.water.length : Int)) = True := eq_true (by omega)
    have hx : h.water[i]? = some h.water[i] := List.getElem?_eq_getElem hlt
    generalize h.water[i] = c at hx
    have hc := c0 _ (List.mem_of_getElem? hx)
    have n1 : -9223372036854775808 ≤ h.wide - 1 ∧ h.wide - 1 < 9223372036854775808 := by omega
    have n2 : -9223372036854775808 ≤ h.wide - 1 - c.x ∧ h.wide - 1 - c.x < 9223372036854775808 := by omega
    have hx1 := (cells_get (mirTo_get (w := h.wide) hx)).1
    have hx2 : List.map VV.p (List.take (i * 2) (List.map plP (mirTo h.wide i h.water)).flatten) ++ vi (h.wide - 1 - c.x) :: List.map VV.p (List.drop (i * 2 + 1) (List.map plP (mirTo h.wide i h.water)).flatten) = cellsC (mirTo h.wide (i + 1) h.water) := by
      rw [← mirTo_set hx]
      exact cells_splice _ (mirTo_get (w := h.wide) hx)
    have hx3 : (i * 2 + 1 ≤ (List.map plP (mirTo h.wide i h.water)).flatten.length) = True := eq_true (by
      have := cellsC_len (mirTo h.wide i h.water)
      rw [List.length_map, mirTo_len] at this
      omega)
    simp (maxSteps := 1000000) only [x5_ty, x5_fn, x5_bin, x5_oi, x5_oc, x5_ok, VL, VM, ↓Gd_none, ↓Gd_t, ↓Gd_f, reduceIte, reduceCtorEq, Int.reduceLE, Int.reduceLT, Int.reduceToNat, Int.reduceNeg, Nat.reduceLT, Nat.reduceEqDiff, Nat.reduceAdd, Nat.reduceSub, Nat.reduceMul, Nat.reduceLeDiff, k2]
    ((repeat refine W_seq ?_); refine W_cond (b := true) (by first | rfl | simp only [ev, get_cons, Nat.reduceEqDiff, if_true, if_false, reduceIte]) (fun _ => ?_) (fun h => by cases h))
    ((repeat refine W_seq ?_); refine W_skip ?_)
    simp (maxSteps := 1000000) only [x5_ty, x5_fn, x5_bin, x5_oi, x5_oc, x5_ok, VL, VM, ↓Gd_none, ↓Gd_t, ↓Gd_f, reduceIte, reduceCtorEq, Int.reduceLE, Int.reduceLT, Int.reduceToNat, Int.reduceNeg, Nat.reduceLT, Nat.reduceEqDiff, Nat.reduceAdd, Nat.reduceSub, Nat.reduceMul, Nat.reduceLeDiff]
    ((repeat refine W_seq ?_); refine W_block ?_)
    (repeat refine W_seq ?_)
    refine W_drawP T5_ok [] (by kernel_rfl) (by kernel_rfl) ?_
    generalize hi : mkPlan _ = infs
    cbv at hi
    subst hi
    simp (maxSteps := 1000000) only [x5_ty, x5_fn, x5_bin, x5_oi, x5_oc, x5_ok, VL, VM, ↓Gd_none, ↓Gd_t, ↓Gd_f, reduceIte, reduceCtorEq, Int.reduceLE, Int.reduceLT, Int.reduceToNat, Int.reduceNeg, Nat.reduceLT, Nat.reduceEqDiff, Nat.reduceAdd, Nat.reduceSub, Nat.reduceMul, Nat.reduceLeDiff, hx1, n1, n2, eq_true hlt, hx3, hx2]
    ((repeat refine W_seq ?_); refine W_region0 T5_ok ?_)
    simp (maxSteps := 1000000) only [x5_ty, x5_fn, x5_bin, x5_oi, x5_oc, x5_ok, VL, VM, ↓Gd_none, ↓Gd_t, ↓Gd_f, reduceIte, reduceCtorEq, Int.reduceLE, Int.reduceLT, Int.reduceToNat, Int.reduceNeg, Nat.reduceLT, Nat.reduceEqDiff, Nat.reduceAdd, Nat.reduceSub, Nat.reduceMul, Nat.reduceLeDiff, k1]
    refine LoopK.mk (i + 1) (by omega) (by omega) ⟨rfl, rfl, rfl, rfl, trivial⟩ rfl
  have k2 : ((i : Int) < (h.water.length : Int)) = False := eq_false (by omega)
  obtain rfl : i = h.water.length := by omega
  simp (maxSteps := 1000000) only [x5_ty, x5_fn, x5_bin, x5_oi, x5_oc, x5_ok, VL, VM, ↓Gd_none, ↓Gd_t, ↓Gd_f, reduceIte, reduceCtorEq, Int.reduceLE, Int.reduceLT, Int.reduceToNat, Int.reduceNeg, Nat.reduceLT, Nat.reduceEqDiff, Nat.reduceAdd, Nat.reduceSub, Nat.reduceMul, Nat.reduceLeDiff, k2]
  ((repeat refine W_seq ?_); refine W_cond (b := false) (by first | rfl | simp only [ev, get_cons, Nat.reduceEqDiff, if_true, if_false, reduceIte]) (fun h => by cases h) (fun _ => ?_))
  ((repeat refine W_seq ?_); refine W_exit ?_)
  simp (maxSteps := 1000000) only [x5_ty, x5_fn, x5_bin, x5_oi, x5_oc, x5_ok, VL, VM, ↓Gd_none, ↓Gd_t, ↓Gd_f, reduceIte, reduceCtorEq, Int.reduceLE, Int.reduceLT, Int.reduceToNat, Int.reduceNeg, Nat.reduceLT, Nat.reduceEqDiff, Nat.reduceAdd, Nat.reduceSub, Nat.reduceMul, Nat.reduceLeDiff]
  ((repeat refine W_seq ?_); refine W_region0 T5_ok ?_)
  simp (maxSteps := 1000000) only [x5_ty, x5_fn, x5_bin, x5_oi, x5_oc, x5_ok, VL, VM, ↓Gd_none, ↓Gd_t, ↓Gd_f, reduceIte, reduceCtorEq, Int.reduceLE, Int.reduceLT, Int.reduceToNat, Int.reduceNeg, Nat.reduceLT, Nat.reduceEqDiff, Nat.reduceAdd, Nat.reduceSub, Nat.reduceMul, Nat.reduceLeDiff]
  ((repeat refine W_seq ?_); refine W_block ?_; (repeat refine W_seq ?_)); refine W_loopS (fun i : Nat => [(1, .ptr M.H.length 0), (2, .ptr (M.H.length + 1) 0), (3, .ptr (M.H.length + 8) 0), (5, vi i)]) (fun i => ⟨M.H ++ [VObj.obj (hallC h), VObj.obj zeroHall, VObj.obj [vi h.wide, vi h.deep, .bf (M.H.length + 4) 0 h.water.length 2, .bf (M.H.length + 5) 0 h.shut.length 2, vi h.bay.x, vi h.bay.y, .bf (M.H.length + 6) 0 h.bears.length 1, .so (M.H.length + 7) 6 (h.kinds.map kiP)], VObj.obj (bufC h (M.H.length + 4)), VObj.obj (cellsC (h.water.map (mir h.wide))), VObj.obj (cellsC (mirTo h.wide i h.shut)), VObj.obj (h.bears.map vi), .clm h.kinds.length 6, VObj.obj (bufC h (M.H.length + 4))], lgA⟩) (fun i => h.shut.length - i) (fun i => i ≤ h.shut.length) 0 (Nat.zero_le _) ⟨rfl, rfl, rfl, rfl, trivial⟩ (by simp only [mirTo_0, brTo_0, mirTo_all, vi]) ?_
  intro i hi
  have k1 : -9223372036854775808 ≤ (i : Int) + 1 ∧ (i : Int) + 1 < 9223372036854775808 := by omega
  ((repeat refine W_seq ?_); refine W_region0 T5_ok ?_)
  rcases Nat.lt_or_ge i h.shut.length with hlt | hge
  · have k2 : ((i : Int) < (h.shut.length : Int)) = True := eq_true (by omega)
    have hx : h.shut[i]? = some h.shut[i] := List.getElem?_eq_getElem hlt
    generalize h.shut[i] = c at hx
    have hc := c1 _ (List.mem_of_getElem? hx)
    have n1 : -9223372036854775808 ≤ h.wide - 1 ∧ h.wide - 1 < 9223372036854775808 := by omega
    have n2 : -9223372036854775808 ≤ h.wide - 1 - c.x ∧ h.wide - 1 - c.x < 9223372036854775808 := by omega
    have hx1 := (cells_get (mirTo_get (w := h.wide) hx)).1
    have hx2 : List.map VV.p (List.take (i * 2) (List.map plP (mirTo h.wide i h.shut)).flatten) ++ vi (h.wide - 1 - c.x) :: List.map VV.p (List.drop (i * 2 + 1) (List.map plP (mirTo h.wide i h.shut)).flatten) = cellsC (mirTo h.wide (i + 1) h.shut) := by
      rw [← mirTo_set hx]
      exact cells_splice _ (mirTo_get (w := h.wide) hx)
    have hx3 : (i * 2 + 1 ≤ (List.map plP (mirTo h.wide i h.shut)).flatten.length) = True := eq_true (by
      have := cellsC_len (mirTo h.wide i h.shut)
      rw [List.length_map, mirTo_len] at this
      omega)
    simp (maxSteps := 1000000) only [x5_ty, x5_fn, x5_bin, x5_oi, x5_oc, x5_ok, VL, VM, ↓Gd_none, ↓Gd_t, ↓Gd_f, reduceIte, reduceCtorEq, Int.reduceLE, Int.reduceLT, Int.reduceToNat, Int.reduceNeg, Nat.reduceLT, Nat.reduceEqDiff, Nat.reduceAdd, Nat.reduceSub, Nat.reduceMul, Nat.reduceLeDiff, k2]
    ((repeat refine W_seq ?_); refine W_cond (b := true) (by first | rfl | simp only [ev, get_cons, Nat.reduceEqDiff, if_true, if_false, reduceIte]) (fun _ => ?_) (fun h => by cases h))
    ((repeat refine W_seq ?_); refine W_skip ?_)
    simp (maxSteps := 1000000) only [x5_ty, x5_fn, x5_bin, x5_oi, x5_oc, x5_ok, VL, VM, ↓Gd_none, ↓Gd_t, ↓Gd_f, reduceIte, reduceCtorEq, Int.reduceLE, Int.reduceLT, Int.reduceToNat, Int.reduceNeg, Nat.reduceLT, Nat.reduceEqDiff, Nat.reduceAdd, Nat.reduceSub, Nat.reduceMul, Nat.reduceLeDiff]
    ((repeat refine W_seq ?_); refine W_block ?_)
    (repeat refine W_seq ?_)
    refine W_drawP T5_ok [] (by kernel_rfl) (by kernel_rfl) ?_
    generalize hi : mkPlan _ = infs
    cbv at hi
    subst hi
    simp (maxSteps := 1000000) only [x5_ty, x5_fn, x5_bin, x5_oi, x5_oc, x5_ok, VL, VM, ↓Gd_none, ↓Gd_t, ↓Gd_f, reduceIte, reduceCtorEq, Int.reduceLE, Int.reduceLT, Int.reduceToNat, Int.reduceNeg, Nat.reduceLT, Nat.reduceEqDiff, Nat.reduceAdd, Nat.reduceSub, Nat.reduceMul, Nat.reduceLeDiff, hx1, n1, n2, eq_true hlt, hx3, hx2]
    ((repeat refine W_seq ?_); refine W_region0 T5_ok ?_)
    simp (maxSteps := 1000000) only [x5_ty, x5_fn, x5_bin, x5_oi, x5_oc, x5_ok, VL, VM, ↓Gd_none, ↓Gd_t, ↓Gd_f, reduceIte, reduceCtorEq, Int.reduceLE, Int.reduceLT, Int.reduceToNat, Int.reduceNeg, Nat.reduceLT, Nat.reduceEqDiff, Nat.reduceAdd, Nat.reduceSub, Nat.reduceMul, Nat.reduceLeDiff, k1]
    refine LoopK.mk (i + 1) (by omega) (by omega) ⟨rfl, rfl, rfl, rfl, trivial⟩ rfl
  have k2 : ((i : Int) < (h.shut.length : Int)) = False := eq_false (by omega)
  obtain rfl : i = h.shut.length := by omega
  simp (maxSteps := 1000000) only [x5_ty, x5_fn, x5_bin, x5_oi, x5_oc, x5_ok, VL, VM, ↓Gd_none, ↓Gd_t, ↓Gd_f, reduceIte, reduceCtorEq, Int.reduceLE, Int.reduceLT, Int.reduceToNat, Int.reduceNeg, Nat.reduceLT, Nat.reduceEqDiff, Nat.reduceAdd, Nat.reduceSub, Nat.reduceMul, Nat.reduceLeDiff, k2]
  ((repeat refine W_seq ?_); refine W_cond (b := false) (by first | rfl | simp only [ev, get_cons, Nat.reduceEqDiff, if_true, if_false, reduceIte]) (fun h => by cases h) (fun _ => ?_))
  ((repeat refine W_seq ?_); refine W_exit ?_)
  simp (maxSteps := 1000000) only [x5_ty, x5_fn, x5_bin, x5_oi, x5_oc, x5_ok, VL, VM, ↓Gd_none, ↓Gd_t, ↓Gd_f, reduceIte, reduceCtorEq, Int.reduceLE, Int.reduceLT, Int.reduceToNat, Int.reduceNeg, Nat.reduceLT, Nat.reduceEqDiff, Nat.reduceAdd, Nat.reduceSub, Nat.reduceMul, Nat.reduceLeDiff]
  obtain ⟨n0, n1, n2⟩ := cols_mir V hdiv
  have hwn : h.wide / h.bay.x = ((h.wide / h.bay.x).toNat : Int) := (Int.toNat_of_nonneg (by omega)).symm
  have hw6 : h.wide / h.bay.x ≤ 6 := Int.le_trans (Int.ediv_le_self _ (by omega)) hw2
  generalize hn : (h.wide / h.bay.x).toNat = n at hwn ⊢
  have g1 : (0 : Int) ≤ h.wide ∧ h.wide < 9223372036854775808 := by omega
  ((repeat refine W_seq ?_); refine W_region0 T5_ok ?_)
  simp (maxSteps := 1000000) only [x5_ty, x5_fn, x5_bin, x5_oi, x5_oc, x5_ok, VL, VM, ↓Gd_none, ↓Gd_t, ↓Gd_f, reduceIte, reduceCtorEq, Int.reduceLE, Int.reduceLT, Int.reduceToNat, Int.reduceNeg, Nat.reduceLT, Nat.reduceEqDiff, Nat.reduceAdd, Nat.reduceSub, Nat.reduceMul, Nat.reduceLeDiff, g1, V.x1]
  rw [hwn]
  ((repeat refine W_seq ?_); refine W_region0 T5_ok ?_)
  simp (maxSteps := 1000000) only [x5_ty, x5_fn, x5_bin, x5_oi, x5_oc, x5_ok, VL, VM, ↓Gd_none, ↓Gd_t, ↓Gd_f, reduceIte, reduceCtorEq, Int.reduceLE, Int.reduceLT, Int.reduceToNat, Int.reduceNeg, Nat.reduceLT, Nat.reduceEqDiff, Nat.reduceAdd, Nat.reduceSub, Nat.reduceMul, Nat.reduceLeDiff]
  ((repeat refine W_seq ?_); refine W_block ?_; (repeat refine W_seq ?_)); refine W_loopS (fun i : Nat => [(1, .ptr M.H.length 0), (2, .ptr (M.H.length + 1) 0), (3, .ptr (M.H.length + 8) 0), (7, vi i), (6, vi n)]) (fun i => ⟨M.H ++ [VObj.obj (hallC h), VObj.obj zeroHall, VObj.obj [vi h.wide, vi h.deep, .bf (M.H.length + 4) 0 h.water.length 2, .bf (M.H.length + 5) 0 h.shut.length 2, vi h.bay.x, vi h.bay.y, .bf (M.H.length + 6) 0 h.bears.length 1, .so (M.H.length + 7) 6 (h.kinds.map kiP)], VObj.obj (bufC h (M.H.length + 4)), VObj.obj (cellsC (h.water.map (mir h.wide))), VObj.obj (cellsC (h.shut.map (mir h.wide))), VObj.obj ((brTo n i h.bears).map vi), .clm h.kinds.length 6, VObj.obj (bufC h (M.H.length + 4))], lgA⟩) (fun i => h.bears.length - i) (fun i => i ≤ h.bears.length) 0 (Nat.zero_le _) ⟨rfl, rfl, rfl, rfl, rfl, trivial⟩ (by simp only [mirTo_0, brTo_0, mirTo_all, vi]) ?_
  intro i hi
  have k1 : -9223372036854775808 ≤ (i : Int) + 1 ∧ (i : Int) + 1 < 9223372036854775808 := by omega
  ((repeat refine W_seq ?_); refine W_region0 T5_ok ?_)
  rcases Nat.lt_or_ge i h.bears.length with hlt | hge
  · have k2 : ((i : Int) < (h.bears.length : Int)) = True := eq_true (by omega)
    have hin := mirI_in V hdiv hlt
    rw [hn] at hin
    have hx : h.bears[mirI n i]? = some h.bears[mirI n i] := List.getElem?_eq_getElem hin
    generalize h.bears[mirI n i] = x at hx
    have hx1 := map_at (f := intP) hx
    have g1 : (0 : Int) ≤ (i : Int) ∧ (i : Int) < 9223372036854775808 := by omega
    have g2 : (1 : Int) ≤ (n : Int) := by omega
    have hq := Nat.div_add_mod i n
    have hr := Nat.mod_lt i (show 0 < n by omega)
    have hm : i / n * n ≤ i := Nat.div_mul_le_self i n
    have e1 : (i : Int) / (n : Int) = ((i / n : Nat) : Int) := by omega
    have e2 : ((i / n : Nat) : Int) * (n : Int) = ((i / n * n : Nat) : Int) := by rw [Int.natCast_mul]
    have e3 : (i : Int) % (n : Int) = ((i % n : Nat) : Int) := by omega
    have e4 : ((i / n * n : Nat) : Int) + (n : Int) - 1 - ((i % n : Nat) : Int) = ((mirI n i : Nat) : Int) := by
      unfold mirI
      omega
    have r1 : -9223372036854775808 ≤ ((i / n : Nat) : Int) * (n : Int) ∧ ((i / n : Nat) : Int) * (n : Int) < 9223372036854775808 := by rw [e2]; omega
    have r0 : -9223372036854775808 ≤ ((i / n * n : Nat) : Int) ∧ ((i / n * n : Nat) : Int) < 9223372036854775808 := by omega
    have r2 : -9223372036854775808 ≤ ((i / n * n : Nat) : Int) + (n : Int) ∧ ((i / n * n : Nat) : Int) + (n : Int) < 9223372036854775808 := by omega
    have r3 : -9223372036854775808 ≤ ((i / n * n : Nat) : Int) + (n : Int) - 1 ∧ ((i / n * n : Nat) : Int) + (n : Int) - 1 < 9223372036854775808 := by omega
    have r4 : -9223372036854775808 ≤ ((i / n * n : Nat) : Int) + (n : Int) - 1 - ((i % n : Nat) : Int) ∧ ((i / n * n : Nat) : Int) + (n : Int) - 1 - ((i % n : Nat) : Int) < 9223372036854775808 := by omega
    have rM : -9223372036854775808 ≤ ((mirI n i : Nat) : Int) ∧ ((mirI n i : Nat) : Int) < 9223372036854775808 := by rw [← e4]; exact r4
    have hx2 : List.map vi (List.take i (brTo n i h.bears)) ++ vi x :: List.map vi (List.drop (i + 1) (brTo n i h.bears)) = List.map vi (brTo n (i + 1) h.bears) := by
      rw [brTo_set hlt hx]
      simp
    have hx3 : (i + 1 ≤ (brTo n i h.bears).length) = True := eq_true (by rw [brTo_len (by omega)]; omega)
    simp (maxSteps := 1000000) only [x5_ty, x5_fn, x5_bin, x5_oi, x5_oc, x5_ok, VL, VM, ↓Gd_none, ↓Gd_t, ↓Gd_f, reduceIte, reduceCtorEq, Int.reduceLE, Int.reduceLT, Int.reduceToNat, Int.reduceNeg, Nat.reduceLT, Nat.reduceEqDiff, Nat.reduceAdd, Nat.reduceSub, Nat.reduceMul, Nat.reduceLeDiff, k2]
    ((repeat refine W_seq ?_); refine W_cond (b := true) (by first | rfl | simp only [ev, get_cons, Nat.reduceEqDiff, if_true, if_false, reduceIte]) (fun _ => ?_) (fun h => by cases h))
    ((repeat refine W_seq ?_); refine W_skip ?_)
    simp (maxSteps := 1000000) only [x5_ty, x5_fn, x5_bin, x5_oi, x5_oc, x5_ok, VL, VM, ↓Gd_none, ↓Gd_t, ↓Gd_f, reduceIte, reduceCtorEq, Int.reduceLE, Int.reduceLT, Int.reduceToNat, Int.reduceNeg, Nat.reduceLT, Nat.reduceEqDiff, Nat.reduceAdd, Nat.reduceSub, Nat.reduceMul, Nat.reduceLeDiff]
    ((repeat refine W_seq ?_); refine W_block ?_)
    (repeat refine W_seq ?_)
    refine W_drawP T5_ok [] (by kernel_rfl) (by kernel_rfl) ?_
    generalize hi : mkPlan _ = infs
    cbv at hi
    subst hi
    simp (maxSteps := 1000000) only [x5_ty, x5_fn, x5_bin, x5_oi, x5_oc, x5_ok, VL, VM, ↓Gd_none, ↓Gd_t, ↓Gd_f, reduceIte, reduceCtorEq, Int.reduceLE, Int.reduceLT, Int.reduceToNat, Int.reduceNeg, Nat.reduceLT, Nat.reduceEqDiff, Nat.reduceAdd, Nat.reduceSub, Nat.reduceMul, Nat.reduceLeDiff, hx1, g1, g2, e1, e2, e3, e4, r0, r1, r2, r3, r4, rM, v_rem, eq_true hlt, hx3, hx2]
    ((repeat refine W_seq ?_); refine W_region0 T5_ok ?_)
    simp (maxSteps := 1000000) only [x5_ty, x5_fn, x5_bin, x5_oi, x5_oc, x5_ok, VL, VM, ↓Gd_none, ↓Gd_t, ↓Gd_f, reduceIte, reduceCtorEq, Int.reduceLE, Int.reduceLT, Int.reduceToNat, Int.reduceNeg, Nat.reduceLT, Nat.reduceEqDiff, Nat.reduceAdd, Nat.reduceSub, Nat.reduceMul, Nat.reduceLeDiff, k1]
    refine LoopK.mk (i + 1) (by omega) (by omega) ⟨rfl, rfl, rfl, rfl, rfl, trivial⟩ rfl
  have k2 : ((i : Int) < (h.bears.length : Int)) = False := eq_false (by omega)
  obtain rfl : i = h.bears.length := by omega
  simp (maxSteps := 1000000) only [x5_ty, x5_fn, x5_bin, x5_oi, x5_oc, x5_ok, VL, VM, ↓Gd_none, ↓Gd_t, ↓Gd_f, reduceIte, reduceCtorEq, Int.reduceLE, Int.reduceLT, Int.reduceToNat, Int.reduceNeg, Nat.reduceLT, Nat.reduceEqDiff, Nat.reduceAdd, Nat.reduceSub, Nat.reduceMul, Nat.reduceLeDiff, k2]
  ((repeat refine W_seq ?_); refine W_cond (b := false) (by first | rfl | simp only [ev, get_cons, Nat.reduceEqDiff, if_true, if_false, reduceIte]) (fun h => by cases h) (fun _ => ?_))
  ((repeat refine W_seq ?_); refine W_exit ?_)
  simp (maxSteps := 1000000) only [x5_ty, x5_fn, x5_bin, x5_oi, x5_oc, x5_ok, VL, VM, ↓Gd_none, ↓Gd_t, ↓Gd_f, reduceIte, reduceCtorEq, Int.reduceLE, Int.reduceLT, Int.reduceToNat, Int.reduceNeg, Nat.reduceLT, Nat.reduceEqDiff, Nat.reduceAdd, Nat.reduceSub, Nat.reduceMul, Nat.reduceLeDiff]
  ((repeat refine W_seq ?_); refine W_region0 T5_ok ?_)
  simp (maxSteps := 1000000) only [x5_ty, x5_fn, x5_bin, x5_oi, x5_oc, x5_ok, VL, VM, ↓Gd_none, ↓Gd_t, ↓Gd_f, reduceIte, reduceCtorEq, Int.reduceLE, Int.reduceLT, Int.reduceToNat, Int.reduceNeg, Nat.reduceLT, Nat.reduceEqDiff, Nat.reduceAdd, Nat.reduceSub, Nat.reduceMul, Nat.reduceLeDiff]
  (repeat refine W_seq ?_)
  refine W_ret ?_
  try simp only [thenQ, blockQ]
  obtain ⟨X, rfl, hX⟩ := hAX
  obtain ⟨Y, y1, y2⟩ := addLg_Y (M.H.length + 1) [M.H.length + 4, M.H.length + 5, M.H.length + 6] (M.lg ++ X)
  refine ⟨.inr (by trivial), by trivial, [bufHall h (M.H.length + 4)], ?_, ⟨_, rfl, ⟨X ++ Y, by rw [y1, List.append_assoc], fun e he => ?_⟩, rfl⟩⟩
  · simp [Try.f48, vresL, vload, x5_ty, t_hall, get_cons, hget, hget0, nat_ble, strip1]
  · rcases List.mem_append.1 he with he | he
    · exact hX e he
    · have := (y2 e he).1
      omega
end Go.Proofs.Ytijcmgfblpokhaa.Vm

/- The law of a mirrored hall, on values. (Vm) -/
namespace Go.Proofs.Ytijcmgfblpokhaa.Vm
open Go Go.Proofs
/-- what holds behind a piece of code, in one of many states, and goes on -/
theorem W_thenX {P : Program} {cx : Cx} {e : Env} {M : Mem} {D : List Nat} {Q : PQ} {c : Code} {σ : Type} {Kn : Env → Mem → List Nat → Prop} (E : σ → Env) (N : σ → Mem) (good : σ → Prop) (h1 : WCode P cx c e M D (fun ex e' M' D' => ex = .normal ∧ D' = D ∧ ∃ s, good s ∧ M' = N s ∧ Sub (E s) e')) (h2 : ∀ s e', good s → Sub (E s) e' → Kn e' (N s) D) : WCode P cx c e M D (thenQ Kn Q) :=
  h1.mono (by rintro ex e' M' D' ⟨rfl, rfl, s, hg, rfl, hS⟩; exact h2 s e' hg hS)
section
variable {P : Program} {cx : Cx} {e : Env} {M : Mem} {D : List Nat} {Q : PQ} {c : Code}
/-- a claim of no block -/
theorem W_push (k : Nat) (h : WCode P cx c e (M.push (.clm 0 k)) D Q) : WCode P cx c e M D Q := by
  intro G w K a hs
  obtain ⟨e1, i1⟩ := step_new (w' := w) hs.inv (calm_refl w) (fun _ _ => rfl) (.clm 0 k) none (fun b e => by cases e) (fun c hc => by simp [contents] at hc) (fun hE b e => by cases e)
  have hs2 : StOk cx G w (upd K M.H.length none) (M.push (.clm 0 k)) a e D := ⟨hs.fr.ext (M' := M.push (.clm 0 k)) e1, df_ext (M' := M.push (.clm 0 k)) e1 hs.df, i1, (rd_ext (M' := M.push (.clm 0 k)) e1 hs.rd).1⟩
  have h2 := h G w _ a hs2
  rw [(rd_ext (M' := M.push (.clm 0 k)) e1 hs.rd).2] at h2
  exact wpIn_mono h2 fun ex a' w' ⟨e', M', K', D', q1, q2, q3, q4⟩ => ⟨e', M', K', D', q1, q2, q3, e1.trans q4⟩
/-- a slice of our own in an object, read as plain data -/
theorem W_stripobj {id off g k : Nat} {xs : List (List PV)} {cs : List VV} (ho : M.H[id]? = some (.obj cs)) (hc : cs[off]? = some (.so g k xs)) (h : WCode P cx c e ⟨M.H.set id (.obj (cs.set off (.p (.sl k xs)))), M.lg⟩ D Q) : WCode P cx c e M D Q := by
  intro G w K a hs
  have i1 := hs.inv
  have hil := (List.getElem?_eq_some_iff.1 ho).1
  have hs2 : ∀ j x, (M.H.set id (.obj (cs.set off (.p (.sl k xs)))))[j]? = some x → (j = id ∧ x = .obj (cs.set off (.p (.sl k xs)))) ∨ (j ≠ id ∧ M.H[j]? = some x) := fun j x hx => by
    rcases set_get hx with ⟨rfl, rfl, _⟩ | ⟨h1, h2⟩
    · exact .inl ⟨rfl, rfl⟩
    · exact .inr ⟨h1, h2⟩
  have hE : Ext w K M.H w K (M.H.set id (.obj (cs.set off (.p (.sl k xs))))) := by
    refine ⟨Nat.le_refl _, fun b o _ him i ob hi hb => ?_, fun _ _ _ _ => rfl, fun i o hi => ?_⟩
    · rcases hs2 i ob hi with ⟨rfl, rfl⟩ | ⟨_, h2⟩
      · obtain ⟨m, k', e2, _⟩ := him i _ ho hb
        cases e2
      · exact him i ob h2 hb
    · by_cases h1 : i = id
      · subst h1
        rw [ho] at hi
        cases hi
        exact ⟨.obj (cs.set off (.p (.sl k xs))), by simp [hil], fun _ _ e => VObj.noConfusion e, rfl⟩
      · refine ⟨o, by rw [List.getElem?_set_ne (Ne.symm h1)]; exact hi, ?_⟩
        exact objLe_same rfl fun b _ => rfl
  have hI2 : Inv G w K { H := M.H.set id (.obj (cs.set off (.p (.sl k xs)))), lg := M.lg } := by
    refine ⟨i1.os, i1.tape, i1.output, i1.size, i1.gB, i1.old, fun i j b hi hj => i1.inj i j b (by simpa using hi) (by simpa using hj), fun i b hi => i1.blk i b (by simpa using hi), fun i o hi => ?_, fun i o hi cc hcc r hr => ?_, fun en hen => ?_, fun i L hi => ?_⟩
    · rcases hs2 i o hi with ⟨rfl, rfl⟩ | ⟨h1, h2⟩
      · intro b hb
        obtain ⟨vs, t, q1, q2, q3⟩ := i1.obj i _ ho b hb
        refine ⟨vs, t, q1, by simpa using q2, fun j v cv hv hcv => ?_⟩
        rw [List.getElem?_set] at hcv
        by_cases hj : off = j
        · subst hj
          have hlt := (List.getElem?_eq_some_iff.1 hc).1
          rw [if_pos rfl, if_pos hlt] at hcv
          cases hcv
          obtain ⟨r1, r2⟩ := q3 off v _ hv hc
          exact ⟨(so_plain r1).ext hE (fun r hr => by simp [refs] at hr), r2⟩
        · rw [if_neg hj] at hcv
          obtain ⟨r1, r2⟩ := q3 j v cv hv hcv
          exact ⟨r1.ext hE (i1.content ho cv (by simp only [contents]; exact List.mem_of_getElem? hcv)), r2⟩
      · exact (i1.obj i o h2).ext hE (fun _ _ => rfl) (i1.content h2)
    · simp only [List.length_set]
      rcases hs2 i o hi with ⟨rfl, rfl⟩ | ⟨h1, h2⟩
      · simp only [contents] at hcc
        rcases List.mem_or_eq_of_mem_set hcc with hm | rfl
        · exact i1.cl i _ ho cc (by simp only [contents]; exact hm) r hr
        · simp [refs] at hr
      · exact i1.cl i o h2 cc hcc r hr
    · simp only [List.length_set]
      exact i1.lg en hen
    · rcases hs2 i _ hi with ⟨rfl, e2⟩ | ⟨_, h2⟩
      · cases e2
      · exact i1.lpd i L h2
  have hs3 : StOk cx G w K { H := M.H.set id (.obj (cs.set off (.p (.sl k xs)))), lg := M.lg } a e D := ⟨hs.fr.ext (M' := { H := M.H.set id (.obj (cs.set off (.p (.sl k xs)))), lg := M.lg }) hE, df_ext (M' := { H := M.H.set id (.obj (cs.set off (.p (.sl k xs)))), lg := M.lg }) hE hs.df, hI2, (rd_ext (M' := { H := M.H.set id (.obj (cs.set off (.p (.sl k xs)))), lg := M.lg }) hE hs.rd).1⟩
  have h2 := h G w _ a hs3
  exact wpIn_mono h2 fun ex a' w' ⟨e', M', K', D', q1, q2, q3, q4⟩ => ⟨e', M', K', D', q1, q2, q3, hE.trans q4⟩
end
theorem put_v (h : Ha) (p : Pu) (M : Mem) (hw : 1 ≤ h.wide ∧ h.wide ≤ 6) (hp : 0 ≤ p.pl.x ∧ p.pl.x < h.wide) : VC Try.prog 49 [hallV h, puV p] M (fun r M' => M' = M ∧ r = puV (mirP h.wide p)) := by
  have n1 : -9223372036854775808 ≤ h.wide - 1 ∧ h.wide - 1 < 9223372036854775808 := by omega
  have n2 : -9223372036854775808 ≤ h.wide - 1 - p.pl.x ∧ h.wide - 1 - p.pl.x < 9223372036854775808 := by omega
  refine VC_own' T_ok (f := 49) (fn := Try.f49) (by kernel_rfl) rfl Try.ntmps49 (by rfl) (by rfl) ?_
  ((repeat refine W_seq ?_); refine W_region0 T_ok ?_)
  simp (maxSteps := 1000000) only [VL, VM, ↓Gd_none, ↓Gd_t, ↓Gd_f, reduceIte, reduceCtorEq, Int.reduceLE, Int.reduceLT, Int.reduceToNat, Int.reduceNeg, Nat.reduceLT, Nat.reduceEqDiff, Nat.reduceAdd, Nat.reduceSub, Nat.reduceMul, Nat.reduceLeDiff]
  ((repeat refine W_seq ?_); refine W_region0 T_ok ?_)
  simp (maxSteps := 1000000) only [VL, VM, ↓Gd_none, ↓Gd_t, ↓Gd_f, reduceIte, reduceCtorEq, Int.reduceLE, Int.reduceLT, Int.reduceToNat, Int.reduceNeg, Nat.reduceLT, Nat.reduceEqDiff, Nat.reduceAdd, Nat.reduceSub, Nat.reduceMul, Nat.reduceLeDiff, n1, n2]
  ((repeat refine W_seq ?_); refine W_region0 T_ok ?_)
  simp (maxSteps := 1000000) only [VL, VM, ↓Gd_none, ↓Gd_t, ↓Gd_f, reduceIte, reduceCtorEq, Int.reduceLE, Int.reduceLT, Int.reduceToNat, Int.reduceNeg, Nat.reduceLT, Nat.reduceEqDiff, Nat.reduceAdd, Nat.reduceSub, Nat.reduceMul, Nat.reduceLeDiff]
  (repeat refine W_seq ?_)
  refine W_ret ?_
  try simp only [thenQ, blockQ]
  refine own_ret (vs := [puV (mirP h.wide p)]) ?_ ?_ (by simp [refs, refsL]) ⟨rfl, rfl⟩
  · simp [Try.f49, vresL, vload, t_put, get_cons, hget, hget0, nat_ble, strip1, mirP, mir]
  · simp [vtup, frz]
theorem Fin.ofVH {h : Ha} (V : VH h) (F : Fin h) : Fin (mirH h) := ⟨by rw [show (mirH h).water = h.water.map (mir h.wide) from rfl, List.length_map]; exact F.water, by rw [show (mirH h).shut = h.shut.map (mir h.wide) from rfl, List.length_map]; exact F.shut, by rw [blen_mir]; exact F.bears, F.kinds, F.aways⟩
/-- a hall whose bays are one place wide -/
def thin (h : Ha) (bs : List Int) : Ha := ⟨h.wide, h.deep, h.water, h.shut, ⟨1, h.bay.y⟩, bs, h.kinds⟩
theorem VH.thin {h : Ha} (V : VH h) {bs : List Int} (hb : (bs.length : Int) = baysOf (thin h [])) (hi : ∀ b ∈ bs, 0 ≤ b ∧ b ≤ 300) : VH (thin h bs) := by
  refine ⟨V.w1, V.w2, V.d1, V.d2, Int.le_refl _, V.w1, V.y1, V.y2, V.water, V.shut, ?_, fun n hn => ?_, V.kinds0, V.kinds6, fun k hk => ?_⟩
  · exact hb
  · have := hi n hn
    omega
  · obtain ⟨g1, g2, g3, g4, g5, g6, g7, g8, g9⟩ := V.kind k hk
    exact ⟨g1, g2, g3, g4, g5, g6, g7, g8, g9⟩
structure MirS where
  h : Ha
  u : Int
  n : Nat
  X : List (Nat × Nat)
structure MirG (h : Ha) (m : Nat) (s : MirS) : Prop where
  V : VH s.h
  F : Fin s.h
  w : s.h.wide ≤ 3
  d : s.h.deep ≤ 2
  div : s.h.wide % s.h.bay.x = 0
  X : ∀ e ∈ s.X, m ≤ e.1
set_option maxHeartbeats 4000000 in
set_option maxRecDepth 100000 in
theorem mirror_law_v (awake : ∀ M, VC Try.prog 15 [] M (fun r M' => M' = M ∧ r = vb true)) (xs : List Int) (M : Mem) (hl : xs.length ≤ maxLen) : VC Try.prog 10 [intsV xs] M (fun r M' => M' = M ∧ r = vb true) := by
  refine VC_own' T_ok (f := 10) (fn := Try.f10) (by kernel_rfl) rfl Try.ntmps10 (by rfl) (by rfl) ?_
  ((repeat refine W_seq ?_); refine W_region0 T_ok ?_)
  simp (maxSteps := 1000000) only [VL, VM, ↓Gd_none, ↓Gd_t, ↓Gd_f, reduceIte, reduceCtorEq, Int.reduceLE, Int.reduceLT, Int.reduceToNat, Int.reduceNeg, Nat.reduceLT, Nat.reduceEqDiff, Nat.reduceAdd, Nat.reduceSub, Nat.reduceMul, Nat.reduceLeDiff]
  ((repeat refine W_seq ?_); refine W_region0 T_ok ?_)
  simp (maxSteps := 1000000) only [VL, VM, ↓Gd_none, ↓Gd_t, ↓Gd_f, reduceIte, reduceCtorEq, Int.reduceLE, Int.reduceLT, Int.reduceToNat, Int.reduceNeg, Nat.reduceLT, Nat.reduceEqDiff, Nat.reduceAdd, Nat.reduceSub, Nat.reduceMul, Nat.reduceLeDiff]
  apply call_eq (f := 17) (fn := Try.f17) (by kernel_rfl) (by rfl)
  · exact dieOf_v xs M hl
  obtain ⟨H0, hH0⟩ : ∃ H0, H0 = M.H ++ [VObj.dead] := ⟨_, rfl⟩
  obtain ⟨d, hdd⟩ : ∃ d, d = M.H.length := ⟨_, rfl⟩
  have hd : d < H0.length := by rw [hH0, hdd]; simp
  have hlen0 : H0.length = M.H.length + 1 := by rw [hH0]; simp
  rw [← hH0, ← hdd]
  have tail : ∀ u L, DH H0 d u L = M.H ++ (.obj [uv u] :: L) := fun u L => by rw [hH0, hdd]; exact DH_tail M u L
  generalize dieU xs = u0
  simp (maxSteps := 1000000) only [VL, VM, ↓Gd_none, ↓Gd_t, ↓Gd_f, reduceIte, reduceCtorEq, Int.reduceLE, Int.reduceLT, Int.reduceToNat, Int.reduceNeg, Nat.reduceLT, Nat.reduceEqDiff, Nat.reduceAdd, Nat.reduceSub, Nat.reduceMul, Nat.reduceLeDiff]
  ((repeat refine W_seq ?_); refine W_region0 T_ok ?_)
  simp (maxSteps := 1000000) only [VL, VM, ↓Gd_none, ↓Gd_t, ↓Gd_f, reduceIte, reduceCtorEq, Int.reduceLE, Int.reduceLT, Int.reduceToNat, Int.reduceNeg, Nat.reduceLT, Nat.reduceEqDiff, Nat.reduceAdd, Nat.reduceSub, Nat.reduceMul, Nat.reduceLeDiff]
  refine fn_call (f := 16) (fn := Try.f16) (by kernel_rfl) (by rfl) ?_
  refine (hallOf_v hd u0 M.lg 3 2 2 (by omega) (by omega) (by omega)).mono ?_
  rintro _ _ ⟨h, u1, wd, dp, rfl, rfl, hG, hW, hD, hN⟩
  have hv := hG.ok
  have V := VH.of hv
  have F := hG.fin
  have hwd := hG.w
  have hdp := hG.d
  have v1 := V.w1
  have v2 := V.w2
  have v3 := V.x1
  have v4 := V.x2
  simp (maxSteps := 1000000) only [VL, VM, ↓Gd_none, ↓Gd_t, ↓Gd_f, reduceIte, reduceCtorEq, Int.reduceLE, Int.reduceLT, Int.reduceToNat, Int.reduceNeg, Nat.reduceLT, Nat.reduceEqDiff, Nat.reduceAdd, Nat.reduceSub, Nat.reduceMul, Nat.reduceLeDiff, DH_app hd, DH_len, DH_len0, DH_get hd, DH_get0 hd, DH_set hd, DH_set0 hd, DH_setd, DH_die hd]
  ((repeat refine W_seq ?_); refine W_region0 T_ok ?_)
  have g1 : (0 : Int) ≤ h.wide ∧ h.wide < 9223372036854775808 := by omega
  have g0 : (0 : Int) ≤ h.wide % h.bay.x := Int.emod_nonneg _ (by omega)
  simp (maxSteps := 1000000) only [VL, VM, ↓Gd_none, ↓Gd_t, ↓Gd_f, reduceIte, reduceCtorEq, Int.reduceLE, Int.reduceLT, Int.reduceToNat, Int.reduceNeg, Nat.reduceLT, Nat.reduceEqDiff, Nat.reduceAdd, Nat.reduceSub, Nat.reduceMul, Nat.reduceLeDiff, DH_app hd, DH_len, DH_len0, DH_get hd, DH_get0 hd, DH_set hd, DH_set0 hd, DH_setd, DH_die hd, v_rem, g1, v3]
  refine W_thenX (fun s : MirS => [(3, .ptr d 0), (4, .ptr H0.length 0)]) (fun s => ⟨DH H0 d s.u [.obj (hallC s.h), .clm s.n 1], M.lg ++ s.X⟩) (MirG h H0.length) ?_ ?_
  · by_cases h0 : h.wide % h.bay.x = 0
    · simp only [h0, decide_true, Bool.not_true]
      ((repeat refine W_seq ?_); refine W_cond (b := false) (by first | rfl | simp only [ev, get_cons, Nat.reduceEqDiff, if_true, if_false, reduceIte]) (fun h => by cases h) (fun _ => ?_))
      refine W_push 1 ?_
      ((repeat refine W_seq ?_); refine W_skip ?_)
      simp only [Mem.push]
      exact ⟨trivial, trivial, ⟨h, u1, 0, []⟩, ⟨V, F, by show h.wide ≤ 3; omega, by show h.deep ≤ 2; omega, h0, by simp⟩, by simp only [DH_app hd, DH_len, DH_len0, DH_get hd, DH_get0 hd, DH_set hd, DH_set0 hd, DH_setd, DH_die hd, List.append_nil, List.cons_append, List.nil_append], rfl, rfl, trivial⟩
    · simp only [eq_false h0, decide_false, Bool.not_false]
      ((repeat refine W_seq ?_); refine W_cond (b := true) (by first | rfl | simp only [ev, get_cons, Nat.reduceEqDiff, if_true, if_false, reduceIte]) (fun _ => ?_) (fun h => by cases h))
      ((repeat refine W_seq ?_); refine W_region0 T_ok ?_)
      simp (maxSteps := 1000000) only [VL, VM, ↓Gd_none, ↓Gd_t, ↓Gd_f, reduceIte, reduceCtorEq, Int.reduceLE, Int.reduceLT, Int.reduceToNat, Int.reduceNeg, Nat.reduceLT, Nat.reduceEqDiff, Nat.reduceAdd, Nat.reduceSub, Nat.reduceMul, Nat.reduceLeDiff, DH_app hd, DH_len, DH_len0, DH_get hd, DH_get0 hd, DH_set hd, DH_set0 hd, DH_setd, DH_die hd]
      ((repeat refine W_seq ?_); refine W_region0 T_ok ?_)
      simp (maxSteps := 1000000) only [VL, VM, ↓Gd_none, ↓Gd_t, ↓Gd_f, reduceIte, reduceCtorEq, Int.reduceLE, Int.reduceLT, Int.reduceToNat, Int.reduceNeg, Nat.reduceLT, Nat.reduceEqDiff, Nat.reduceAdd, Nat.reduceSub, Nat.reduceMul, Nat.reduceLeDiff, DH_app hd, DH_len, DH_len0, DH_get hd, DH_get0 hd, DH_set hd, DH_set0 hd, DH_setd, DH_die hd]
      refine W_ghost (id := H0.length) (off := 6) (k := 1) (k0 := 0) (by rw [DH_get0 hd]; rfl) rfl ?_
      simp (maxSteps := 1000000) only [VL, VM, ↓Gd_none, ↓Gd_t, ↓Gd_f, reduceIte, reduceCtorEq, Int.reduceLE, Int.reduceLT, Int.reduceToNat, Int.reduceNeg, Nat.reduceLT, Nat.reduceEqDiff, Nat.reduceAdd, Nat.reduceSub, Nat.reduceMul, Nat.reduceLeDiff, DH_app hd, DH_len, DH_len0, DH_get hd, DH_get0 hd, DH_set hd, DH_set0 hd, DH_setd, DH_die hd]
      have hS : Small (thin h []) := ⟨V.w1, by show h.wide ≤ _; omega, V.d1, by have := V.d2; show h.deep ≤ _; omega, by show (1 : Int) ≤ 1; omega, by show (1 : Int) ≤ 1000; omega, V.y1, by have := V.y2; have := V.d2; show h.bay.y ≤ _; omega⟩
      obtain ⟨nb, hnb, hnb2⟩ : ∃ nb : Nat, (nb : Int) = baysOf (thin h []) ∧ nb ≤ 1000000 := by
        have c1 := div_le (n := h.wide + 1 - 1) (b := 1) (by omega) (by omega)
        have c2 := div_le (n := h.deep + h.bay.y - 1) (b := h.bay.y) (by have := V.d1; have := V.y1; omega) V.y1
        have := V.d2
        have := V.y2
        have hm := mul_le c1.1 c2.1 (show (h.wide + 1 - 1) / 1 ≤ 6 by omega) (show (h.deep + h.bay.y - 1) / h.bay.y ≤ 8 by omega)
        have h0 : 0 ≤ baysOf (thin h []) ∧ baysOf (thin h []) ≤ 1000000 := by
          show 0 ≤ (h.wide + 1 - 1) / 1 * ((h.deep + h.bay.y - 1) / h.bay.y) ∧ (h.wide + 1 - 1) / 1 * ((h.deep + h.bay.y - 1) / h.bay.y) ≤ 1000000
          omega
        exact ⟨(baysOf (thin h [])).toNat, by omega, by omega⟩
      ((repeat refine W_seq ?_); refine W_region0 T_ok ?_)
      simp (maxSteps := 1000000) only [VL, VM, ↓Gd_none, ↓Gd_t, ↓Gd_f, reduceIte, reduceCtorEq, Int.reduceLE, Int.reduceLT, Int.reduceToNat, Int.reduceNeg, Nat.reduceLT, Nat.reduceEqDiff, Nat.reduceAdd, Nat.reduceSub, Nat.reduceMul, Nat.reduceLeDiff, DH_app hd, DH_len, DH_len0, DH_get hd, DH_get0 hd, DH_set hd, DH_set0 hd, DH_setd, DH_die hd]
      apply call_eq (f := 47) (fn := Try.f47) (by kernel_rfl) (by rfl)
      · exact bays_v (thin h []) _ hS
      rw [← hnb]
      simp (maxSteps := 1000000) only [VL, VM, ↓Gd_none, ↓Gd_t, ↓Gd_f, reduceIte, reduceCtorEq, Int.reduceLE, Int.reduceLT, Int.reduceToNat, Int.reduceNeg, Nat.reduceLT, Nat.reduceEqDiff, Nat.reduceAdd, Nat.reduceSub, Nat.reduceMul, Nat.reduceLeDiff, DH_app hd, DH_len, DH_len0, DH_get hd, DH_get0 hd, DH_set hd, DH_set0 hd, DH_setd, DH_die hd]
      obtain ⟨lgB, hB⟩ : ∃ lgB, lgB = M.lg ++ [(H0.length, H0.length + 1)] := ⟨_, rfl⟩
      rw [← hB]
      have A4 : addLg H0.length [H0.length + 1] lgB = lgB := addLg_has (by rw [hB]; simp)
      ((repeat refine W_seq ?_); refine W_block ?_; (repeat refine W_seq ?_)); refine W_loopS (fun s : HallB => [(3, .ptr d 0), (4, .ptr H0.length 0), (5, vi ((nb : Int) - s.bs.length))]) (fun s => ⟨DH H0 d s.u [VObj.obj [vi h.wide, vi h.deep, plsV h.water, plsV h.shut, vi 1, vi h.bay.y, .so (H0.length + 1) 1 (s.bs.map intP), kisV h.kinds], .clm s.bs.length 1], lgB⟩) (fun s => nb - s.bs.length) (fun s => s.bs.length ≤ nb ∧ ∀ b ∈ s.bs, 0 ≤ b ∧ b ≤ 300) ⟨u1, []⟩ ⟨Nat.zero_le _, by simp⟩ ⟨rfl, rfl, by simp [get_cons], trivial⟩ rfl ?_
      rintro ⟨v1, bs⟩ ⟨hbl, hbs⟩
      simp only at hbl hbs
      ((repeat refine W_seq ?_); refine W_region0 T_ok ?_)
      rcases Nat.lt_or_ge bs.length nb with hlt | hge
      · have k2 : ((0 : Int) < (nb : Int) - (bs.length : Int)) = True := eq_true (by omega)
        have k3 : -9223372036854775808 ≤ (nb : Int) - (bs.length : Int) - 1 ∧ (nb : Int) - (bs.length : Int) - 1 < 9223372036854775808 := by omega
        have q1 : ((bs.length + 1) * 8 ≤ 140737488355328) = True := eq_true (by omega)
        have c1 := castF_range (u := v1) (n := 150) (by omega)
        simp (maxSteps := 1000000) only [VL, VM, ↓Gd_none, ↓Gd_t, ↓Gd_f, reduceIte, reduceCtorEq, Int.reduceLE, Int.reduceLT, Int.reduceToNat, Int.reduceNeg, Nat.reduceLT, Nat.reduceEqDiff, Nat.reduceAdd, Nat.reduceSub, Nat.reduceMul, Nat.reduceLeDiff, k2]
        ((repeat refine W_seq ?_); refine W_cond (b := true) (by first | rfl | simp only [ev, get_cons, Nat.reduceEqDiff, if_true, if_false, reduceIte]) (fun _ => ?_) (fun h => by cases h))
        ((repeat refine W_seq ?_); refine W_skip ?_)
        simp (maxSteps := 1000000) only [VL, VM, ↓Gd_none, ↓Gd_t, ↓Gd_f, reduceIte, reduceCtorEq, Int.reduceLE, Int.reduceLT, Int.reduceToNat, Int.reduceNeg, Nat.reduceLT, Nat.reduceEqDiff, Nat.reduceAdd, Nat.reduceSub, Nat.reduceMul, Nat.reduceLeDiff]
        ((repeat refine W_seq ?_); refine W_block ?_)
        (repeat refine W_seq ?_)
        refine W_drawP T_ok [] (by kernel_rfl) (by kernel_rfl) ?_
        generalize hi : mkPlan _ = infs
        cbv at hi
        subst hi
        simp (maxSteps := 1000000) only [VL, VM, ↓Gd_none, ↓Gd_t, ↓Gd_f, reduceIte, reduceCtorEq, Int.reduceLE, Int.reduceLT, Int.reduceToNat, Int.reduceNeg, Nat.reduceLT, Nat.reduceEqDiff, Nat.reduceAdd, Nat.reduceSub, Nat.reduceMul, Nat.reduceLeDiff, DH_app hd, DH_len, DH_len0, DH_get hd, DH_get0 hd, DH_set hd, DH_set0 hd, DH_setd, DH_die hd, q1, A4]
        apply call_d (f := 45) (fn := Try.f45) (by kernel_rfl) (by rfl)
        · exact cast_c hd v1 150 lgB (by omega)
        generalize castF v1 150 = b at *
        generalize castU v1 150 = v2 at *
        simp (maxSteps := 1000000) only [VL, VM, ↓Gd_none, ↓Gd_t, ↓Gd_f, reduceIte, reduceCtorEq, Int.reduceLE, Int.reduceLT, Int.reduceToNat, Int.reduceNeg, Nat.reduceLT, Nat.reduceEqDiff, Nat.reduceAdd, Nat.reduceSub, Nat.reduceMul, Nat.reduceLeDiff, DH_app hd, DH_len, DH_len0, DH_get hd, DH_get0 hd, DH_set hd, DH_set0 hd, DH_setd, DH_die hd, q1, A4]
        ((repeat refine W_seq ?_); refine W_region0 T_ok ?_)
        simp (maxSteps := 1000000) only [VL, VM, ↓Gd_none, ↓Gd_t, ↓Gd_f, reduceIte, reduceCtorEq, Int.reduceLE, Int.reduceLT, Int.reduceToNat, Int.reduceNeg, Nat.reduceLT, Nat.reduceEqDiff, Nat.reduceAdd, Nat.reduceSub, Nat.reduceMul, Nat.reduceLeDiff, k3]
        refine LoopK.mk ⟨v2, bs ++ [b]⟩ (by simp; omega) ⟨by simp; omega, ?_⟩ ⟨rfl, rfl, ?_, trivial⟩ ?_
        · intro x hx
          rcases List.mem_append.1 hx with hx | hx
          · exact hbs x hx
          · rw [List.mem_singleton] at hx
            subst hx
            omega
        · simp only [List.length_append, List.length_cons, List.length_nil]
          have e9 : (nb : Int) - (bs.length : Int) - 1 = (nb : Int) - ((bs.length + 1 : Nat) : Int) := by omega
          show vi ((nb : Int) - (bs.length : Int) - 1) = vi ((nb : Int) - ((bs.length + 1 : Nat) : Int))
          rw [e9]
        · simp
      have k2 : ((0 : Int) < (nb : Int) - (bs.length : Int)) = False := eq_false (by omega)
      simp (maxSteps := 1000000) only [VL, VM, ↓Gd_none, ↓Gd_t, ↓Gd_f, reduceIte, reduceCtorEq, Int.reduceLE, Int.reduceLT, Int.reduceToNat, Int.reduceNeg, Nat.reduceLT, Nat.reduceEqDiff, Nat.reduceAdd, Nat.reduceSub, Nat.reduceMul, Nat.reduceLeDiff, k2]
      ((repeat refine W_seq ?_); refine W_cond (b := false) (by first | rfl | simp only [ev, get_cons, Nat.reduceEqDiff, if_true, if_false, reduceIte]) (fun h => by cases h) (fun _ => ?_))
      refine W_stripobj (id := H0.length) (off := 6) (g := H0.length + 1) (k := 1) (xs := bs.map intP) (by rw [DH_get0 hd]; rfl) rfl ?_
      ((repeat refine W_seq ?_); refine W_exit ?_)
      simp (maxSteps := 1000000) only [VL, VM, ↓Gd_none, ↓Gd_t, ↓Gd_f, reduceIte, reduceCtorEq, Int.reduceLE, Int.reduceLT, Int.reduceToNat, Int.reduceNeg, Nat.reduceLT, Nat.reduceEqDiff, Nat.reduceAdd, Nat.reduceSub, Nat.reduceMul, Nat.reduceLeDiff, DH_app hd, DH_len, DH_len0, DH_get hd, DH_get0 hd, DH_set hd, DH_set0 hd, DH_setd, DH_die hd]
      have V2 : VH (thin h bs) := VH.thin V (by rw [← hnb]; omega) hbs
      exact ⟨⟨thin h bs, v1, bs.length, [(H0.length, H0.length + 1)]⟩, ⟨V2, ⟨F.water, F.shut, by show bs.length ≤ _; omega, F.kinds, F.aways⟩, by show h.wide ≤ 3; omega, by show h.deep ≤ 2; omega, Int.emod_one _, by simp⟩, by rw [hB]; rfl, rfl, rfl, trivial⟩
  clear hG V F hwd hdp hv v1 v2 v3 v4 g1 g0 hN hW hD
  rintro ⟨h, u1, n, X⟩ e' ⟨V, F, hw3, hd2, hdiv, hX⟩ hS
  simp only at V F hw3 hd2 hdiv hX hS ⊢
  refine WCode.weak (e' := [(3, .ptr d 0), (4, .ptr H0.length 0)]) ?_ hS.ok
  clear hS
  have hv := hall_zero V
  have Vx := VH.mir V hdiv
  have hvx := hall_zero Vx
  have Fx := Fin.ofVH V F
  have v1 := V.w1
  have v2 := V.w2
  ((repeat refine W_seq ?_); refine W_region0 T_ok ?_)
  simp (maxSteps := 1000000) only [VL, VM, ↓Gd_none, ↓Gd_t, ↓Gd_f, reduceIte, reduceCtorEq, Int.reduceLE, Int.reduceLT, Int.reduceToNat, Int.reduceNeg, Nat.reduceLT, Nat.reduceEqDiff, Nat.reduceAdd, Nat.reduceSub, Nat.reduceMul, Nat.reduceLeDiff, DH_app hd, DH_len, DH_len0, DH_get hd, DH_get0 hd, DH_set hd, DH_set0 hd, DH_setd, DH_die hd]
  apply call_eq (f := 48) (fn := Try.f48) (by kernel_rfl) (by rfl)
  · exact mirrored_v h _ F V hdiv
  simp (maxSteps := 1000000) only [VL, VM, ↓Gd_none, ↓Gd_t, ↓Gd_f, reduceIte, reduceCtorEq, Int.reduceLE, Int.reduceLT, Int.reduceToNat, Int.reduceNeg, Nat.reduceLT, Nat.reduceEqDiff, Nat.reduceAdd, Nat.reduceSub, Nat.reduceMul, Nat.reduceLeDiff, DH_app hd, DH_len, DH_len0, DH_get hd, DH_get0 hd, DH_set hd, DH_set0 hd, DH_setd, DH_die hd]
  ((repeat refine W_seq ?_); refine W_region0 T_ok ?_)
  simp (maxSteps := 1000000) only [VL, VM, ↓Gd_none, ↓Gd_t, ↓Gd_f, reduceIte, reduceCtorEq, Int.reduceLE, Int.reduceLT, Int.reduceToNat, Int.reduceNeg, Nat.reduceLT, Nat.reduceEqDiff, Nat.reduceAdd, Nat.reduceSub, Nat.reduceMul, Nat.reduceLeDiff, DH_app hd, DH_len, DH_len0, DH_get hd, DH_get0 hd, DH_set hd, DH_set0 hd, DH_setd, DH_die hd]
  refine fn_call (f := 23) (fn := Try.f23) (by kernel_rfl) (by rfl) ?_
  rw [DH_base]
  refine (layoutOf_v (by rw [List.length_append]; omega) u1 (M.lg ++ X) h 5 V F (by omega) hv).mono ?_
  rintro _ _ ⟨l, u2, rfl, rfl, hle, hlm⟩
  rw [← DH_base]
  have hg := lay_good hle
  have hlen := lay_len hle
  have hle2 : layoutErr h l = 0 := layout_ok.2 ⟨hv, hle⟩
  have hlx : layoutErr (mirH h) (l.map (mirP h.wide)) = 0 := layout_ok.2 ⟨hvx, layErr_zero.2 (lay_mir (layErr_zero.1 hle))⟩
  have hvd := verdict_mir V hdiv hg
  have hopn : ∀ k : Ha, k.wide = h.wide → k.deep = h.deep → (openL k).length ≤ 6 := by
    intro k e1 e2
    obtain ⟨wd, hwd⟩ := Int.eq_ofNat_of_zero_le (show 0 ≤ h.wide by omega)
    obtain ⟨dp, hdp⟩ := Int.eq_ofNat_of_zero_le (show 0 ≤ h.deep by have := V.d1; omega)
    have h1 : (openL k).length ≤ (placesL k).length := List.length_filter_le _ _
    have h2 : (placesL k).length = dp * wd := by
      unfold placesL
      rw [rowsOf_len, e1, e2, hwd, hdp]; rfl
    have h3 : dp * wd ≤ 2 * 3 := Nat.mul_le_mul (by omega) (by omega)
    omega
  have hbe : bestErr h = 0 := by unfold bestErr; rw [if_neg (by simp [hv]), if_neg (by have := hopn h rfl rfl; omega)]
  have hbx : bestErr (mirH h) = 0 := by unfold bestErr; rw [if_neg (by simp [hvx]), if_neg (by have := hopn (mirH h) rfl rfl; omega)]
  obtain ⟨hr, hlb⟩ := mirror_best V hdiv
  obtain ⟨_, bA, _⟩ := best_spec V
  obtain ⟨_, bX, _⟩ := best_spec Vx
  simp (maxSteps := 1000000) only [VL, VM, ↓Gd_none, ↓Gd_t, ↓Gd_f, reduceIte, reduceCtorEq, Int.reduceLE, Int.reduceLT, Int.reduceToNat, Int.reduceNeg, Nat.reduceLT, Nat.reduceEqDiff, Nat.reduceAdd, Nat.reduceSub, Nat.reduceMul, Nat.reduceLeDiff, DH_app hd, DH_len, DH_len0, DH_get hd, DH_get0 hd, DH_set hd, DH_set0 hd, DH_setd, DH_die hd]
  ((repeat refine W_seq ?_); refine W_region0 T_ok ?_)
  simp (maxSteps := 1000000) only [VL, VM, ↓Gd_none, ↓Gd_t, ↓Gd_f, reduceIte, reduceCtorEq, Int.reduceLE, Int.reduceLT, Int.reduceToNat, Int.reduceNeg, Nat.reduceLT, Nat.reduceEqDiff, Nat.reduceAdd, Nat.reduceSub, Nat.reduceMul, Nat.reduceLeDiff, DH_app hd, DH_len, DH_len0, DH_get hd, DH_get0 hd, DH_set hd, DH_set0 hd, DH_setd, DH_die hd]
  refine W_tok (t := 8) (k := 3) rfl ?_
  simp (maxSteps := 1000000) only [VL, VM, ↓Gd_none, ↓Gd_t, ↓Gd_f, reduceIte, reduceCtorEq, Int.reduceLE, Int.reduceLT, Int.reduceToNat, Int.reduceNeg, Nat.reduceLT, Nat.reduceEqDiff, Nat.reduceAdd, Nat.reduceSub, Nat.reduceMul, Nat.reduceLeDiff, DH_app hd, DH_len, DH_len0, DH_get hd, DH_get0 hd, DH_set hd, DH_set0 hd, DH_setd, DH_die hd]
  ((repeat refine W_seq ?_); refine W_region0 T_ok ?_)
  simp (maxSteps := 1000000) only [VL, VM, ↓Gd_none, ↓Gd_t, ↓Gd_f, reduceIte, reduceCtorEq, Int.reduceLE, Int.reduceLT, Int.reduceToNat, Int.reduceNeg, Nat.reduceLT, Nat.reduceEqDiff, Nat.reduceAdd, Nat.reduceSub, Nat.reduceMul, Nat.reduceLeDiff, DH_app hd, DH_len, DH_len0, DH_get hd, DH_get0 hd, DH_set hd, DH_set0 hd, DH_setd, DH_die hd]
  ((repeat refine W_seq ?_); refine W_block ?_; (repeat refine W_seq ?_)); refine W_loopS (fun i : Nat => [(4, .ptr H0.length 0), (6, .ptr (H0.length + 2) 0), (7, pusV l), (8, .so (H0.length + 3) 3 (((l.take i).map (mirP h.wide)).map puP)), (9, vi i)]) (fun i => ⟨DH H0 d u2 [.obj (hallC h), .clm n 1, .obj (hallC (mirH h)), .clm i 3], M.lg ++ X⟩) (fun i => l.length - i) (fun i => i ≤ l.length) 0 (Nat.zero_le _) ⟨rfl, rfl, rfl, rfl, rfl, trivial⟩ rfl ?_
  rintro i hi
  have k1 : -9223372036854775808 ≤ (i : Int) + 1 ∧ (i : Int) + 1 < 9223372036854775808 := by omega
  ((repeat refine W_seq ?_); refine W_region0 T_ok ?_)
  rcases Nat.lt_or_ge i l.length with hlt | hge
  · have k2 : ((i : Int) < (l.length : Int)) = True := eq_true (by omega)
    have hx : l[i]? = some l[i] := List.getElem?_eq_getElem hlt
    have hgi := hg _ (List.getElem_mem hlt)
    have e1 : (l.take i).length = i := by rw [List.length_take]; omega
    have s1 : (l.take (i + 1)).map (mirP h.wide) = (l.take i).map (mirP h.wide) ++ [mirP h.wide l[i]] := by
      rw [List.take_add_one, hx, List.map_append]; rfl
    generalize l[i] = p at hx hgi s1
    have hx' := map_at (f := puP) hx
    generalize l.take i = la at e1 s1
    have q1 : ((i + 1) * 24 ≤ 140737488355328) = True := eq_true (by omega)
    have hin := pl_in hgi.1
    simp (maxSteps := 1000000) only [VL, VM, ↓Gd_none, ↓Gd_t, ↓Gd_f, reduceIte, reduceCtorEq, Int.reduceLE, Int.reduceLT, Int.reduceToNat, Int.reduceNeg, Nat.reduceLT, Nat.reduceEqDiff, Nat.reduceAdd, Nat.reduceSub, Nat.reduceMul, Nat.reduceLeDiff, k2]
    ((repeat refine W_seq ?_); refine W_cond (b := true) (by first | rfl | simp only [ev, get_cons, Nat.reduceEqDiff, if_true, if_false, reduceIte]) (fun _ => ?_) (fun h => by cases h))
    ((repeat refine W_seq ?_); refine W_skip ?_)
    simp (maxSteps := 1000000) only [VL, VM, ↓Gd_none, ↓Gd_t, ↓Gd_f, reduceIte, reduceCtorEq, Int.reduceLE, Int.reduceLT, Int.reduceToNat, Int.reduceNeg, Nat.reduceLT, Nat.reduceEqDiff, Nat.reduceAdd, Nat.reduceSub, Nat.reduceMul, Nat.reduceLeDiff]
    ((repeat refine W_seq ?_); refine W_block ?_)
    (repeat refine W_seq ?_)
    refine W_drawP T_ok [] (by kernel_rfl) (by kernel_rfl) ?_
    generalize hi : mkPlan _ = infs
    cbv at hi
    subst hi
    simp (maxSteps := 1000000) only [VL, VM, ↓Gd_none, ↓Gd_t, ↓Gd_f, reduceIte, reduceCtorEq, Int.reduceLE, Int.reduceLT, Int.reduceToNat, Int.reduceNeg, Nat.reduceLT, Nat.reduceEqDiff, Nat.reduceAdd, Nat.reduceSub, Nat.reduceMul, Nat.reduceLeDiff, DH_app hd, DH_len, DH_len0, DH_get hd, DH_get0 hd, DH_set hd, DH_set0 hd, DH_setd, DH_die hd, hx']
    apply call_d (f := 49) (fn := Try.f49) (by kernel_rfl) (by rfl)
    · exact put_v h p _ ⟨v1, by omega⟩ hin
    simp (maxSteps := 1000000) only [VL, VM, ↓Gd_none, ↓Gd_t, ↓Gd_f, reduceIte, reduceCtorEq, Int.reduceLE, Int.reduceLT, Int.reduceToNat, Int.reduceNeg, Nat.reduceLT, Nat.reduceEqDiff, Nat.reduceAdd, Nat.reduceSub, Nat.reduceMul, Nat.reduceLeDiff, DH_app hd, DH_len, DH_len0, DH_get hd, DH_get0 hd, DH_set hd, DH_set0 hd, DH_setd, DH_die hd, hx', e1, q1]
    ((repeat refine W_seq ?_); refine W_region0 T_ok ?_)
    simp (maxSteps := 1000000) only [VL, VM, ↓Gd_none, ↓Gd_t, ↓Gd_f, reduceIte, reduceCtorEq, Int.reduceLE, Int.reduceLT, Int.reduceToNat, Int.reduceNeg, Nat.reduceLT, Nat.reduceEqDiff, Nat.reduceAdd, Nat.reduceSub, Nat.reduceMul, Nat.reduceLeDiff, k1]
    refine LoopK.mk (i + 1) (by omega) (by omega) ⟨rfl, rfl, rfl, ?_, rfl, trivial⟩ rfl
    try simp only
    rw [s1]; simp [get_cons]
  have k2 : ((i : Int) < (l.length : Int)) = False := eq_false (by omega)
  obtain rfl : i = l.length := by omega
  rw [List.take_length]
  simp (maxSteps := 1000000) only [VL, VM, ↓Gd_none, ↓Gd_t, ↓Gd_f, reduceIte, reduceCtorEq, Int.reduceLE, Int.reduceLT, Int.reduceToNat, Int.reduceNeg, Nat.reduceLT, Nat.reduceEqDiff, Nat.reduceAdd, Nat.reduceSub, Nat.reduceMul, Nat.reduceLeDiff, k2]
  ((repeat refine W_seq ?_); refine W_cond (b := false) (by first | rfl | simp only [ev, get_cons, Nat.reduceEqDiff, if_true, if_false, reduceIte]) (fun h => by cases h) (fun _ => ?_))
  ((repeat refine W_seq ?_); refine W_exit ?_)
  simp (maxSteps := 1000000) only [VL, VM, ↓Gd_none, ↓Gd_t, ↓Gd_f, reduceIte, reduceCtorEq, Int.reduceLE, Int.reduceLT, Int.reduceToNat, Int.reduceNeg, Nat.reduceLT, Nat.reduceEqDiff, Nat.reduceAdd, Nat.reduceSub, Nat.reduceMul, Nat.reduceLeDiff]
  ((repeat refine W_seq ?_); refine W_region0 T_ok ?_)
  simp (maxSteps := 1000000) only [VL, VM, ↓Gd_none, ↓Gd_t, ↓Gd_f, reduceIte, reduceCtorEq, Int.reduceLE, Int.reduceLT, Int.reduceToNat, Int.reduceNeg, Nat.reduceLT, Nat.reduceEqDiff, Nat.reduceAdd, Nat.reduceSub, Nat.reduceMul, Nat.reduceLeDiff, DH_app hd, DH_len, DH_len0, DH_get hd, DH_get0 hd, DH_set hd, DH_set0 hd, DH_setd, DH_die hd]
  apply call_eq (f := 25) (fn := Try.f25) (by kernel_rfl) (by rfl)
  · exact Bears_vm h l _ F (by omega)
  rw [show bearsOut h l = verdictOf h l from if_pos hle2, hle2]
  simp (maxSteps := 1000000) only [VL, VM, ↓Gd_none, ↓Gd_t, ↓Gd_f, reduceIte, reduceCtorEq, Int.reduceLE, Int.reduceLT, Int.reduceToNat, Int.reduceNeg, Nat.reduceLT, Nat.reduceEqDiff, Nat.reduceAdd, Nat.reduceSub, Nat.reduceMul, Nat.reduceLeDiff, DH_app hd, DH_len, DH_len0, DH_get hd, DH_get0 hd, DH_set hd, DH_set0 hd, DH_setd, DH_die hd]
  ((repeat refine W_seq ?_); refine W_region0 T_ok ?_)
  simp (maxSteps := 1000000) only [VL, VM, ↓Gd_none, ↓Gd_t, ↓Gd_f, reduceIte, reduceCtorEq, Int.reduceLE, Int.reduceLT, Int.reduceToNat, Int.reduceNeg, Nat.reduceLT, Nat.reduceEqDiff, Nat.reduceAdd, Nat.reduceSub, Nat.reduceMul, Nat.reduceLeDiff, DH_app hd, DH_len, DH_len0, DH_get hd, DH_get0 hd, DH_set hd, DH_set0 hd, DH_setd, DH_die hd]
  apply call_eq (f := 25) (fn := Try.f25) (by kernel_rfl) (by rfl)
  · exact Bears_vm (mirH h) (l.map (mirP h.wide)) _ Fx (by rw [List.length_map]; omega)
  rw [show bearsOut (mirH h) (l.map (mirP h.wide)) = verdictOf (mirH h) (l.map (mirP h.wide)) from if_pos hlx, hlx, hvd]
  simp (maxSteps := 1000000) only [VL, VM, ↓Gd_none, ↓Gd_t, ↓Gd_f, reduceIte, reduceCtorEq, Int.reduceLE, Int.reduceLT, Int.reduceToNat, Int.reduceNeg, Nat.reduceLT, Nat.reduceEqDiff, Nat.reduceAdd, Nat.reduceSub, Nat.reduceMul, Nat.reduceLeDiff, DH_app hd, DH_len, DH_len0, DH_get hd, DH_get0 hd, DH_set hd, DH_set0 hd, DH_setd, DH_die hd]
  ((repeat refine W_seq ?_); refine W_region0 T_ok ?_)
  simp (maxSteps := 1000000) only [VL, VM, ↓Gd_none, ↓Gd_t, ↓Gd_f, reduceIte, reduceCtorEq, Int.reduceLE, Int.reduceLT, Int.reduceToNat, Int.reduceNeg, Nat.reduceLT, Nat.reduceEqDiff, Nat.reduceAdd, Nat.reduceSub, Nat.reduceMul, Nat.reduceLeDiff, DH_app hd, DH_len, DH_len0, DH_get hd, DH_get0 hd, DH_set hd, DH_set0 hd, DH_setd, DH_die hd]
  apply call_eq (f := 19) (fn := Try.f19) (by kernel_rfl) (by rfl)
  · exact best_vm h _ F
  rw [show bestR h = pusV (bestL h) from if_pos hbe, hbe]
  simp (maxSteps := 1000000) only [VL, VM, ↓Gd_none, ↓Gd_t, ↓Gd_f, reduceIte, reduceCtorEq, Int.reduceLE, Int.reduceLT, Int.reduceToNat, Int.reduceNeg, Nat.reduceLT, Nat.reduceEqDiff, Nat.reduceAdd, Nat.reduceSub, Nat.reduceMul, Nat.reduceLeDiff, DH_app hd, DH_len, DH_len0, DH_get hd, DH_get0 hd, DH_set hd, DH_set0 hd, DH_setd, DH_die hd]
  ((repeat refine W_seq ?_); refine W_region0 T_ok ?_)
  simp (maxSteps := 1000000) only [VL, VM, ↓Gd_none, ↓Gd_t, ↓Gd_f, reduceIte, reduceCtorEq, Int.reduceLE, Int.reduceLT, Int.reduceToNat, Int.reduceNeg, Nat.reduceLT, Nat.reduceEqDiff, Nat.reduceAdd, Nat.reduceSub, Nat.reduceMul, Nat.reduceLeDiff, DH_app hd, DH_len, DH_len0, DH_get hd, DH_get0 hd, DH_set hd, DH_set0 hd, DH_setd, DH_die hd]
  apply call_eq (f := 19) (fn := Try.f19) (by kernel_rfl) (by rfl)
  · exact best_vm (mirH h) _ Fx
  rw [show bestR (mirH h) = pusV (bestL (mirH h)) from if_pos hbx, hbx]
  simp (maxSteps := 1000000) only [VL, VM, ↓Gd_none, ↓Gd_t, ↓Gd_f, reduceIte, reduceCtorEq, Int.reduceLE, Int.reduceLT, Int.reduceToNat, Int.reduceNeg, Nat.reduceLT, Nat.reduceEqDiff, Nat.reduceAdd, Nat.reduceSub, Nat.reduceMul, Nat.reduceLeDiff, DH_app hd, DH_len, DH_len0, DH_get hd, DH_get0 hd, DH_set hd, DH_set0 hd, DH_setd, DH_die hd]
  ((repeat refine W_seq ?_); refine W_region0 T_ok ?_)
  simp (maxSteps := 1000000) only [VL, VM, ↓Gd_none, ↓Gd_t, ↓Gd_f, reduceIte, reduceCtorEq, Int.reduceLE, Int.reduceLT, Int.reduceToNat, Int.reduceNeg, Nat.reduceLT, Nat.reduceEqDiff, Nat.reduceAdd, Nat.reduceSub, Nat.reduceMul, Nat.reduceLeDiff, DH_app hd, DH_len, DH_len0, DH_get hd, DH_get0 hd, DH_set hd, DH_set0 hd, DH_setd, DH_die hd]
  apply call_eq (f := 34) (fn := Try.f34) (by kernel_rfl) (by rfl)
  · exact Earns_vm h (bestL h) _ F (by have := bA.len; omega)
  rw [show earnsR h (bestL h) = rentOf h (bestL h) from if_pos (bA.lay hv), bA.lay hv]
  simp (maxSteps := 1000000) only [VL, VM, ↓Gd_none, ↓Gd_t, ↓Gd_f, reduceIte, reduceCtorEq, Int.reduceLE, Int.reduceLT, Int.reduceToNat, Int.reduceNeg, Nat.reduceLT, Nat.reduceEqDiff, Nat.reduceAdd, Nat.reduceSub, Nat.reduceMul, Nat.reduceLeDiff, DH_app hd, DH_len, DH_len0, DH_get hd, DH_get0 hd, DH_set hd, DH_set0 hd, DH_setd, DH_die hd]
  ((repeat refine W_seq ?_); refine W_region0 T_ok ?_)
  simp (maxSteps := 1000000) only [VL, VM, ↓Gd_none, ↓Gd_t, ↓Gd_f, reduceIte, reduceCtorEq, Int.reduceLE, Int.reduceLT, Int.reduceToNat, Int.reduceNeg, Nat.reduceLT, Nat.reduceEqDiff, Nat.reduceAdd, Nat.reduceSub, Nat.reduceMul, Nat.reduceLeDiff, DH_app hd, DH_len, DH_len0, DH_get hd, DH_get0 hd, DH_set hd, DH_set0 hd, DH_setd, DH_die hd]
  apply call_eq (f := 34) (fn := Try.f34) (by kernel_rfl) (by rfl)
  · exact Earns_vm (mirH h) (bestL (mirH h)) _ Fx (by have := bX.len; omega)
  rw [show earnsR (mirH h) (bestL (mirH h)) = rentOf (mirH h) (bestL (mirH h)) from if_pos (bX.lay hvx), bX.lay hvx]
  simp (maxSteps := 1000000) only [VL, VM, ↓Gd_none, ↓Gd_t, ↓Gd_f, reduceIte, reduceCtorEq, Int.reduceLE, Int.reduceLT, Int.reduceToNat, Int.reduceNeg, Nat.reduceLT, Nat.reduceEqDiff, Nat.reduceAdd, Nat.reduceSub, Nat.reduceMul, Nat.reduceLeDiff, DH_app hd, DH_len, DH_len0, DH_get hd, DH_get0 hd, DH_set hd, DH_set0 hd, DH_setd, DH_die hd]
  ((repeat refine W_seq ?_); refine W_region0 T_ok ?_)
  rw [hr]
  simp (maxSteps := 1000000) only [VL, VM, ↓Gd_none, ↓Gd_t, ↓Gd_f, reduceIte, reduceCtorEq, Int.reduceLE, Int.reduceLT, Int.reduceToNat, Int.reduceNeg, Nat.reduceLT, Nat.reduceEqDiff, Nat.reduceAdd, Nat.reduceSub, Nat.reduceMul, Nat.reduceLeDiff, DH_app hd, DH_len, DH_len0, DH_get hd, DH_get0 hd, DH_set hd, DH_set0 hd, DH_setd, DH_die hd, hlb, eq_self, decide_true, Bool.not_true]
  apply call_eq (f := 15) (fn := Try.f15) (by kernel_rfl) (by rfl)
  · exact awake _
  simp (maxSteps := 1000000) only [VL, VM, ↓Gd_none, ↓Gd_t, ↓Gd_f, reduceIte, reduceCtorEq, Int.reduceLE, Int.reduceLT, Int.reduceToNat, Int.reduceNeg, Nat.reduceLT, Nat.reduceEqDiff, Nat.reduceAdd, Nat.reduceSub, Nat.reduceMul, Nat.reduceLeDiff, DH_app hd, DH_len, DH_len0, DH_get hd, DH_get0 hd, DH_set hd, DH_set0 hd, DH_setd, DH_die hd]
  rw [tail]
  (repeat refine W_seq ?_)
  refine W_ret ?_
  try simp only [thenQ, blockQ]
  exact ⟨.inr rfl, rfl, ⟨X, rfl, fun e he => by have := hX e he; omega⟩, M.H, _, rfl, rfl, [vb true], rfl, vb true, rfl, by simp [refs], rfl, rfl⟩
end Go.Proofs.Ytijcmgfblpokhaa.Vm

/- VaultMirror: for every list of numbers the law answers true, and the numbers read afterwards as before. (Vm) -/
namespace Go.Proofs.Ytijcmgfblpokhaa.Vm
open Go Go.Proofs Go.ChangeShapes Go.WideShapes Go.ChangeAt Go.RowKit
set_option maxRecDepth 100000 in
theorem mirror_lifted (os : Os) (started : os.Started) (H : Type) (enc : TypeId × Value → H) :
    ReturnsInHanded {} Try.checked os 10 .any (Rows.vaultMirrorSpec.pre6 enc Try.prog Try.f10 Rows.vaultMirrorRow.domain false) (Rows.vaultMirrorSpec.post enc Try.prog Try.f10 false true false false) := by
  refine returnsInHanded_of_change (C := Try.checked) law_own started (by kernel_rfl) Try.func10
    (ChangeSpec.witness6 (enc := enc) (C := Try.checked) false ⟨#[], #[.slice none 0 0], []⟩ 8 (by kernel_rfl) (by kernel_rfl) (by kernel_rfl) (by kernel_rfl)) ?_
  intro W base args ds gs before hval hW hcnd _
  exact ints_contract rfl (fun d => ⟨rfl, rfl, rfl⟩) rfl rfl (fun xs hl => mirror_law_v awake_v xs ⟨[], []⟩ hl) hval hW
theorem mirror_holds : Rows.VaultMirrorSaid :=
  OpenClaim.holds_of_wide 10 Try.f10 rfl rfl rfl rfl rfl rfl rfl ⟨rfl, rfl, rfl, rfl, rfl⟩ rfl rfl rfl rfl rfl (by kernel_rfl) Try.func10 (by kernel_rfl)
    (of_decide_eq_true (by kernel_rfl)) (by unfold Func.isWrapper; first | (rw [if_pos (by decide +kernel)]; kernel_rfl) | (rw [if_neg (by decide +kernel)]; exact ⟨rfl, rfl⟩))
    (fun os started H enc _ => mirror_lifted os started H enc)
end Go.Proofs.Ytijcmgfblpokhaa.Vm
namespace Go.Proofs.Ytijcmgfblpokhaa
theorem vaultMirror_proved : Rows.VaultMirrorSaid := Vm.mirror_holds
end Go.Proofs.Ytijcmgfblpokhaa
