/- VaultStronger: for every list of numbers the law answers true, and the numbers read afterwards as before. No conditions. -/
import Derived.Test.YtijcmgfblpokhaaB34
import Derived.Test.YtijcmgfblpokhaaB46
import Derived.Test.YtijcmgfblpokhaaB48
import Derived.Test.YtijcmgfblpokhaaB49
import Derived.Test.YtijcmgfblpokhaaB51
import Derived.Test.YtijcmgfblpokhaaB52
import Derived.Test.YtijcmgfblpokhaaB53
import Derived.Test.YtijcmgfblpokhaaB54
set_option linter.unusedVariables false
set_option linter.unusedSimpArgs false
/- A hall that is copied into slices of its own. (Vm) -/
-- TABLE T5
namespace Go.Proofs.Ytijcmgfblpokhaa.Vm
open Go Go.Proofs
def own5 (t : Nat) : Bool := Nat.beq t 25 || Nat.beq t 22
def ownT (T : Tab) (o k : Nat → Bool) : Tab := { T with own := o, keeps := k }
section
variable {P : Program} {T : Tab} {o k : Nat → Bool}
theorem ownT_ok (h : TabOk P T) : TabOk P (ownT T o k) := ⟨h.ty, h.fn, h.mixed⟩
theorem ownT_ty : (ownT T o k).ty = T.ty := rfl
theorem ownT_fn : (ownT T o k).fn = T.fn := rfl
theorem ownT_bin : vbin (ownT T o k) = vbin T := rfl
theorem ownT_own : (ownT T o k).own = o := rfl
theorem ownT_keeps : (ownT T o k).keeps = k := rfl
end
def keep5 (f : Nat) : Bool := keepsB f || Nat.beq f 62 || Nat.beq f 18 || Nat.beq f 48
noncomputable def T5 : Tab := ownT T own5 keep5
theorem T5_ok : TabOk Try.prog T5 := ownT_ok T_ok
theorem x5_ty : T5.ty = T.ty := ownT_ty
theorem x5_fn : T5.fn = T.fn := ownT_fn
theorem x5_bin : vbin T5 = vbin T := ownT_bin
theorem x5_oi : T5.own 25 = true := by rw [T5, ownT_own]; rfl
theorem x5_oc : T5.own 22 = true := by rw [T5, ownT_own]; rfl
theorem x5_ok : T5.own 26 = false := by rw [T5, ownT_own]; rfl
theorem x5_keeps : T5.keeps = keep5 := by rw [T5, ownT_keeps]
theorem flat_ints : ∀ xs : List Int, List.map VV.p (List.map intP xs).flatten = xs.map vi
  | [] => rfl
  | x :: xs => by simp [flat_ints xs]
theorem copyInts_own (xs : List Int) (M : Mem) (hl : xs.length ≤ 1000000) : VC Try.prog 62 [intsV xs] M (fun r M' => M' = ⟨M.H ++ [.obj (xs.map vi)], M.lg⟩ ∧ r = .bf M.H.length 0 xs.length 1) := by
  have q1 : (xs.length * 8 ≤ 140737488355328) = True := eq_true (by omega)
  refine VC_keep T5_ok (f := 62) (fn := Try.f62) (by rw [x5_fn]; kernel_rfl) rfl Try.ntmps62 (by rfl) (by rw [x5_keeps]; rfl) ?_
  ((repeat refine W_seq ?_); refine W_region0 T5_ok ?_)
  simp (maxSteps := 1000000) only [x5_ty, x5_fn, x5_bin, x5_oi, x5_oc, x5_ok, VL, VM, ↓Gd_none, ↓Gd_t, ↓Gd_f, reduceIte, reduceCtorEq, Int.reduceLE, Int.reduceLT, Int.reduceToNat, Int.reduceNeg, Nat.reduceLT, Nat.reduceEqDiff, Nat.reduceAdd, Nat.reduceSub, Nat.reduceMul, Nat.reduceLeDiff]
  ((repeat refine W_seq ?_); refine W_region0 T5_ok ?_)
  simp (maxSteps := 1000000) only [x5_ty, x5_fn, x5_bin, x5_oi, x5_oc, x5_ok, VL, VM, ↓Gd_none, ↓Gd_t, ↓Gd_f, reduceIte, reduceCtorEq, Int.reduceLE, Int.reduceLT, Int.reduceToNat, Int.reduceNeg, Nat.reduceLT, Nat.reduceEqDiff, Nat.reduceAdd, Nat.reduceSub, Nat.reduceMul, Nat.reduceLeDiff, q1]
  (repeat refine W_seq ?_)
  refine W_ret ?_
  refine ⟨.inr rfl, rfl, [.bf M.H.length 0 xs.length 1], rfl, ?_, rfl⟩
  rw [flat_ints]
abbrev cellsC (l : List Pl) : List VV := List.map VV.p (List.map plP l).flatten
abbrev zeroHall : List VV := [vi 0, vi 0, .sf 0 [], .sf 0 [], vi 0, vi 0, .sf 0 [], .sf 0 []]
theorem addLg_Y (id : Nat) (rs : List Nat) (lg : List (Nat × Nat)) : ∃ X, addLg id rs lg = lg ++ X ∧ ∀ e ∈ X, e.1 = id ∧ e.2 ∈ rs := by
  unfold addLg
  split
  · exact ⟨[], by simp, by simp⟩
  · refine ⟨_, rfl, fun e he => ?_⟩
    obtain ⟨r, hr, rfl⟩ := List.mem_map.1 he
    refine ⟨rfl, ?_⟩
    simp only [List.mem_filter] at hr
    first | exact hr.1 | exact hr
end Go.Proofs.Ytijcmgfblpokhaa.Vm

/- A hall that is copied into slices of its own, its kinds too. (Vm) -/
-- TABLE T5
namespace Go.Proofs.Ytijcmgfblpokhaa.Vm
open Go Go.Proofs
abbrev rowW (b j : Nat) (k : Ki) : List VV := [vi k.lo, vi k.hi, vb k.water, .bf (b + 2 * j + 1) 0 k.away.length 1, vi k.rent, vi k.most]
def rowsW (b : Nat) (l : List Ki) : List (List VV) := l.mapIdx (rowW b)
def objsW (b : Nat) (l : List Ki) : List VObj := (l.mapIdx fun j k => [VObj.obj (rowW b j k), .obj (k.away.map vi)]).flatten
theorem rowsW_len (b : Nat) (l : List Ki) : (rowsW b l).length = l.length := by simp [rowsW]
theorem rowsW_app (b : Nat) (l : List Ki) (k : Ki) : rowsW b (l ++ [k]) = rowsW b l ++ [rowW b l.length k] := by simp [rowsW, List.mapIdx_append]
theorem objsW_app (b : Nat) (l : List Ki) (k : Ki) : objsW b (l ++ [k]) = objsW b l ++ [.obj (rowW b l.length k), .obj (k.away.map vi)] := by simp [objsW, List.mapIdx_append]
theorem objsW_len (b : Nat) : ∀ l : List Ki, (objsW b l).length = 2 * l.length := by
  intro l
  have : ∀ (n : Nat) (l : List Ki), l.length = n → (objsW b l).length = 2 * n := by
    intro n
    induction n with
    | zero => intro l h; rw [List.length_eq_zero_iff.1 h]; rfl
    | succ n ih =>
      intro l h
      rcases List.eq_nil_or_concat l with rfl | ⟨m, k, rfl⟩
      · cases h
      · rw [List.concat_eq_append] at h ⊢
        simp at h
        rw [objsW_app, List.length_append, ih m h]
        simp
        omega
  exact this _ l rfl
theorem mem_eq {H1 H2 : List VObj} {l1 l2 : List (Nat × Nat)} (h : H1 = H2) (h' : l1 = l2) : (⟨H1, l1⟩ : Mem) = ⟨H2, l2⟩ := by rw [h, h']
structure CwSt where
  i : Nat
  lg : List (Nat × Nat)
abbrev hobjW (h : Ha) (n : Nat) (l : List Ki) : List VV := [vi h.wide, vi h.deep, .bf (n + 2) 0 h.water.length 2, .bf (n + 3) 0 h.shut.length 2, vi h.bay.x, vi h.bay.y, .bf (n + 4) 0 h.bears.length 1, .sw (n + 5) 6 (rowsW (n + 6) l)]
set_option maxHeartbeats 1000000 in
theorem copyHall_sw (h : Ha) (M : Mem) (F : Fin h) : VC Try.prog 18 [hallV h] M (fun r M' => ∃ lg, M' = ⟨M.H ++ (VObj.obj (hobjW h M.H.length h.kinds) :: VObj.obj (hobjW h M.H.length h.kinds) :: VObj.obj (cellsC h.water) :: VObj.obj (cellsC h.shut) :: VObj.obj (h.bears.map vi) :: .clm h.kinds.length 6 :: objsW (M.H.length + 6) h.kinds), lg⟩ ∧ r = .agg (hobjW h M.H.length h.kinds)) := by
  have fw := F.water
  have fs := F.shut
  have fb := F.bears
  have fk := F.kinds
  have q1 : (h.water.length * 16 ≤ 140737488355328) = True := eq_true (by omega)
  have q2 : (h.shut.length * 16 ≤ 140737488355328) = True := eq_true (by omega)
  refine VC_keep T5_ok (f := 18) (fn := Try.f18) (by rw [x5_fn]; kernel_rfl) rfl Try.ntmps18 (by rfl) (by rw [x5_keeps]; rfl) ?_
  ((repeat refine W_seq ?_); refine W_region0 T5_ok ?_)
  simp (maxSteps := 1000000) only [x5_ty, x5_fn, x5_bin, x5_oi, x5_oc, x5_ok, VL, VM, ↓Gd_none, ↓Gd_t, ↓Gd_f, reduceIte, reduceCtorEq, Int.reduceLE, Int.reduceLT, Int.reduceToNat, Int.reduceNeg, Nat.reduceLT, Nat.reduceEqDiff, Nat.reduceAdd, Nat.reduceSub, Nat.reduceMul, Nat.reduceLeDiff]
  (repeat refine W_seq ?_)
  refine W_drawP T5_ok [] (by kernel_rfl) (by kernel_rfl) ?_
  generalize hi : mkPlan _ = infs
  cbv at hi
  subst hi
  simp (maxSteps := 1000000) only [x5_ty, x5_fn, x5_bin, x5_oi, x5_oc, x5_ok, VL, VM, ↓Gd_none, ↓Gd_t, ↓Gd_f, reduceIte, reduceCtorEq, Int.reduceLE, Int.reduceLT, Int.reduceToNat, Int.reduceNeg, Nat.reduceLT, Nat.reduceEqDiff, Nat.reduceAdd, Nat.reduceSub, Nat.reduceMul, Nat.reduceLeDiff, q1, q2]
  apply call_d (f := 62) (fn := Try.f62) (by kernel_rfl) (by rfl)
  · exact copyInts_own h.bears _ fb
  simp (maxSteps := 1000000) only [x5_ty, x5_fn, x5_bin, x5_oi, x5_oc, x5_ok, VL, VM, ↓Gd_none, ↓Gd_t, ↓Gd_f, reduceIte, reduceCtorEq, Int.reduceLE, Int.reduceLT, Int.reduceToNat, Int.reduceNeg, Nat.reduceLT, Nat.reduceEqDiff, Nat.reduceAdd, Nat.reduceSub, Nat.reduceMul, Nat.reduceLeDiff, q1, q2]
  ((repeat refine W_seq ?_); refine W_region0 T5_ok ?_)
  simp (maxSteps := 1000000) only [x5_ty, x5_fn, x5_bin, x5_oi, x5_oc, x5_ok, VL, VM, ↓Gd_none, ↓Gd_t, ↓Gd_f, reduceIte, reduceCtorEq, Int.reduceLE, Int.reduceLT, Int.reduceToNat, Int.reduceNeg, Nat.reduceLT, Nat.reduceEqDiff, Nat.reduceAdd, Nat.reduceSub, Nat.reduceMul, Nat.reduceLeDiff]
  ((repeat refine W_seq ?_); refine W_region0 T5_ok ?_)
  simp (maxSteps := 1000000) only [x5_ty, x5_fn, x5_bin, x5_oi, x5_oc, x5_ok, VL, VM, ↓Gd_none, ↓Gd_t, ↓Gd_f, reduceIte, reduceCtorEq, Int.reduceLE, Int.reduceLT, Int.reduceToNat, Int.reduceNeg, Nat.reduceLT, Nat.reduceEqDiff, Nat.reduceAdd, Nat.reduceSub, Nat.reduceMul, Nat.reduceLeDiff]
  refine W_ghostw (id := M.H.length) (off := 7) (k := 6) (k0 := 0) (hget0 _ _) rfl ?_
  obtain ⟨lgC, hC⟩ : ∃ lgC, lgC = addLg M.H.length [M.H.length + 4] (addLg M.H.length [M.H.length + 3] (addLg M.H.length [M.H.length + 2] M.lg)) ++ [(M.H.length, M.H.length + 5)] := ⟨_, rfl⟩
  simp (maxSteps := 1000000) only [x5_ty, x5_fn, x5_bin, x5_oi, x5_oc, x5_ok, VL, VM, ↓Gd_none, ↓Gd_t, ↓Gd_f, reduceIte, reduceCtorEq, Int.reduceLE, Int.reduceLT, Int.reduceToNat, Int.reduceNeg, Nat.reduceLT, Nat.reduceEqDiff, Nat.reduceAdd, Nat.reduceSub, Nat.reduceMul, Nat.reduceLeDiff]
  rw [← hC]
  clear hC
  ((repeat refine W_seq ?_); refine W_region0 T5_ok ?_)
  simp (maxSteps := 1000000) only [x5_ty, x5_fn, x5_bin, x5_oi, x5_oc, x5_ok, VL, VM, ↓Gd_none, ↓Gd_t, ↓Gd_f, reduceIte, reduceCtorEq, Int.reduceLE, Int.reduceLT, Int.reduceToNat, Int.reduceNeg, Nat.reduceLT, Nat.reduceEqDiff, Nat.reduceAdd, Nat.reduceSub, Nat.reduceMul, Nat.reduceLeDiff]
  ((repeat refine W_seq ?_); refine W_block ?_; (repeat refine W_seq ?_)); refine W_loopS (fun s : CwSt => [(1, .ptr M.H.length 0), (2, .ptr (M.H.length + 1) 0), (3, kisV h.kinds), (4, vi s.i)]) (fun s => ⟨M.H ++ (VObj.obj [vi h.wide, vi h.deep, .bf (M.H.length + 2) 0 h.water.length 2, .bf (M.H.length + 3) 0 h.shut.length 2, vi h.bay.x, vi h.bay.y, .bf (M.H.length + 4) 0 h.bears.length 1, .sw (M.H.length + 5) 6 (rowsW (M.H.length + 6) (h.kinds.take s.i))] :: VObj.obj zeroHall :: VObj.obj (cellsC h.water) :: VObj.obj (cellsC h.shut) :: VObj.obj (h.bears.map vi) :: .clm s.i 6 :: objsW (M.H.length + 6) (h.kinds.take s.i)), s.lg⟩) (fun s => h.kinds.length - s.i) (fun s => s.i ≤ h.kinds.length) ⟨0, lgC⟩ (Nat.zero_le _) ⟨rfl, rfl, rfl, rfl, trivial⟩ rfl ?_
  rintro ⟨i, lg⟩ hi
  simp only at hi
  have k1 : -9223372036854775808 ≤ (i : Int) + 1 ∧ (i : Int) + 1 < 9223372036854775808 := by omega
  ((repeat refine W_seq ?_); refine W_region0 T5_ok ?_)
  rcases Nat.lt_or_ge i h.kinds.length with hlt | hge
  · have k2 : ((i : Int) < (h.kinds.length : Int)) = True := eq_true (by omega)
    have hx : h.kinds[i]? = some h.kinds[i] := List.getElem?_eq_getElem hlt
    have hx' := map_at (f := kiP) hx
    have haw := F.aways _ (List.getElem_mem hlt)
    have q3 : ((i + 1) * 64 ≤ 140737488355328) = True := eq_true (by omega)
    have e1 : (h.kinds.take i).length = i := by rw [List.length_take]; omega
    have s1 : h.kinds.take (i + 1) = h.kinds.take i ++ [h.kinds[i]] := by
      rw [List.take_add_one, hx]; rfl
    generalize h.kinds[i] = k at hx hx' haw s1
    have s2 := rowsW_app (M.H.length + 6) (h.kinds.take i) k
    have s3 := objsW_app (M.H.length + 6) (h.kinds.take i) k
    have hJl := objsW_len (M.H.length + 6) (h.kinds.take i)
    have hRl := rowsW_len (M.H.length + 6) (h.kinds.take i)
    rw [← s1] at s2 s3
    rw [e1] at hJl hRl s2 s3
    generalize objsW (M.H.length + 6) (h.kinds.take i) = J at hJl s3 ⊢
    generalize rowsW (M.H.length + 6) (h.kinds.take i) = R at hRl s2 ⊢
    simp (maxSteps := 1000000) only [x5_ty, x5_fn, x5_bin, x5_oi, x5_oc, x5_ok, VL, VM, ↓Gd_none, ↓Gd_t, ↓Gd_f, reduceIte, reduceCtorEq, Int.reduceLE, Int.reduceLT, Int.reduceToNat, Int.reduceNeg, Nat.reduceLT, Nat.reduceEqDiff, Nat.reduceAdd, Nat.reduceSub, Nat.reduceMul, Nat.reduceLeDiff, k2]
    ((repeat refine W_seq ?_); refine W_cond (b := true) (by first | rfl | simp only [ev, get_cons, Nat.reduceEqDiff, if_true, if_false, reduceIte]) (fun _ => ?_) (fun h => by cases h))
    ((repeat refine W_seq ?_); refine W_skip ?_)
    simp (maxSteps := 1000000) only [x5_ty, x5_fn, x5_bin, x5_oi, x5_oc, x5_ok, VL, VM, ↓Gd_none, ↓Gd_t, ↓Gd_f, reduceIte, reduceCtorEq, Int.reduceLE, Int.reduceLT, Int.reduceToNat, Int.reduceNeg, Nat.reduceLT, Nat.reduceEqDiff, Nat.reduceAdd, Nat.reduceSub, Nat.reduceMul, Nat.reduceLeDiff]
    ((repeat refine W_seq ?_); refine W_block ?_)
    ((repeat refine W_seq ?_); refine W_region0 T5_ok ?_)
    simp (maxSteps := 1000000) only [x5_ty, x5_fn, x5_bin, x5_oi, x5_oc, x5_ok, VL, VM, ↓Gd_none, ↓Gd_t, ↓Gd_f, reduceIte, reduceCtorEq, Int.reduceLE, Int.reduceLT, Int.reduceToNat, Int.reduceNeg, Nat.reduceLT, Nat.reduceEqDiff, Nat.reduceAdd, Nat.reduceSub, Nat.reduceMul, Nat.reduceLeDiff, hx']
    ((repeat refine W_seq ?_); refine W_region0 T5_ok ?_)
    simp (maxSteps := 1000000) only [x5_ty, x5_fn, x5_bin, x5_oi, x5_oc, x5_ok, VL, VM, ↓Gd_none, ↓Gd_t, ↓Gd_f, reduceIte, reduceCtorEq, Int.reduceLE, Int.reduceLT, Int.reduceToNat, Int.reduceNeg, Nat.reduceLT, Nat.reduceEqDiff, Nat.reduceAdd, Nat.reduceSub, Nat.reduceMul, Nat.reduceLeDiff]
    apply call_eq (f := 62) (fn := Try.f62) (by kernel_rfl) (by rfl)
    · exact copyInts_own k.away _ haw
    simp (maxSteps := 1000000) only [x5_ty, x5_fn, x5_bin, x5_oi, x5_oc, x5_ok, VL, VM, ↓Gd_none, ↓Gd_t, ↓Gd_f, reduceIte, reduceCtorEq, Int.reduceLE, Int.reduceLT, Int.reduceToNat, Int.reduceNeg, Nat.reduceLT, Nat.reduceEqDiff, Nat.reduceAdd, Nat.reduceSub, Nat.reduceMul, Nat.reduceLeDiff]
    ((repeat refine W_seq ?_); refine W_region0 T5_ok ?_)
    simp (maxSteps := 1000000) only [x5_ty, x5_fn, x5_bin, x5_oi, x5_oc, x5_ok, VL, VM, ↓Gd_none, ↓Gd_t, ↓Gd_f, reduceIte, reduceCtorEq, Int.reduceLE, Int.reduceLT, Int.reduceToNat, Int.reduceNeg, Nat.reduceLT, Nat.reduceEqDiff, Nat.reduceAdd, Nat.reduceSub, Nat.reduceMul, Nat.reduceLeDiff, vappendV, hRl, q3]
    ((repeat refine W_seq ?_); refine W_region0 T5_ok ?_)
    simp (maxSteps := 1000000) only [x5_ty, x5_fn, x5_bin, x5_oi, x5_oc, x5_ok, VL, VM, ↓Gd_none, ↓Gd_t, ↓Gd_f, reduceIte, reduceCtorEq, Int.reduceLE, Int.reduceLT, Int.reduceToNat, Int.reduceNeg, Nat.reduceLT, Nat.reduceEqDiff, Nat.reduceAdd, Nat.reduceSub, Nat.reduceMul, Nat.reduceLeDiff, k1]
    have e7 : M.H.length + (J.length + 7) = M.H.length + 6 + 2 * i + 1 := by omega
    refine LoopK.mk ⟨i + 1, _⟩ ?_ ?_ ⟨rfl, rfl, rfl, rfl, trivial⟩ (mem_eq ?_ rfl)
    · simp only
      omega
    · simp only
      omega
    · simp only
      rw [s2, s3, e7]
  have k2 : ((i : Int) < (h.kinds.length : Int)) = False := eq_false (by omega)
  obtain rfl : i = h.kinds.length := by omega
  simp (maxSteps := 1000000) only [x5_ty, x5_fn, x5_bin, x5_oi, x5_oc, x5_ok, VL, VM, ↓Gd_none, ↓Gd_t, ↓Gd_f, reduceIte, reduceCtorEq, Int.reduceLE, Int.reduceLT, Int.reduceToNat, Int.reduceNeg, Nat.reduceLT, Nat.reduceEqDiff, Nat.reduceAdd, Nat.reduceSub, Nat.reduceMul, Nat.reduceLeDiff, k2]
  ((repeat refine W_seq ?_); refine W_cond (b := false) (by first | rfl | simp only [ev, get_cons, Nat.reduceEqDiff, if_true, if_false, reduceIte]) (fun h => by cases h) (fun _ => ?_))
  ((repeat refine W_seq ?_); refine W_exit ?_)
  simp (maxSteps := 1000000) only [x5_ty, x5_fn, x5_bin, x5_oi, x5_oc, x5_ok, VL, VM, ↓Gd_none, ↓Gd_t, ↓Gd_f, reduceIte, reduceCtorEq, Int.reduceLE, Int.reduceLT, Int.reduceToNat, Int.reduceNeg, Nat.reduceLT, Nat.reduceEqDiff, Nat.reduceAdd, Nat.reduceSub, Nat.reduceMul, Nat.reduceLeDiff]
  rw [List.take_length]
  ((repeat refine W_seq ?_); refine W_region0 T5_ok ?_)
  simp (maxSteps := 1000000) only [x5_ty, x5_fn, x5_bin, x5_oi, x5_oc, x5_ok, VL, VM, ↓Gd_none, ↓Gd_t, ↓Gd_f, reduceIte, reduceCtorEq, Int.reduceLE, Int.reduceLT, Int.reduceToNat, Int.reduceNeg, Nat.reduceLT, Nat.reduceEqDiff, Nat.reduceAdd, Nat.reduceSub, Nat.reduceMul, Nat.reduceLeDiff]
  (repeat refine W_seq ?_)
  refine W_ret ?_
  try simp only [thenQ, blockQ]
  refine ⟨.inr (by trivial), by trivial, [.agg (hobjW h M.H.length h.kinds)], ?_, ⟨_, rfl, rfl⟩⟩
  simp [Try.f18, vresL, vload, x5_ty, t_hall, get_cons, hget, hget0, nat_ble, strip1]
def objsT (l : List Ki) : List VObj := l.flatMap fun k => [VObj.dead, .obj (k.away.map vi)]
theorem objsT_len : ∀ l : List Ki, (objsT l).length = 2 * l.length
  | [] => rfl
  | k :: l => by
    have := objsT_len l
    unfold objsT at this ⊢
    rw [List.flatMap_cons, List.length_append, this]
    simp
    omega
theorem rowsW_cons (b : Nat) (k : Ki) (l : List Ki) : rowsW b (k :: l) = rowW b 0 k :: rowsW (b + 2) l := by
  unfold rowsW
  rw [List.mapIdx_cons]
  congr 2
  funext j q
  rw [rowW, rowW, show b + 2 * (j + 1) + 1 = b + 2 + 2 * j + 1 by omega]
theorem objsW_cons (b : Nat) (k : Ki) (l : List Ki) : objsW b (k :: l) = .obj (rowW b 0 k) :: .obj (k.away.map vi) :: objsW (b + 2) l := by
  unfold objsW
  rw [List.mapIdx_cons, List.flatten_cons]
  simp only [List.cons_append, List.nil_append]
  congr 5
  funext j q
  rw [rowW, rowW, show b + 2 * (j + 1) + 1 = b + 2 + 2 * j + 1 by omega]
theorem ints_imf (l : List Int) : ∀ c ∈ l.map vi, imf c = true ∧ refs c = [] := fun c hc => by
  obtain ⟨n, _, rfl⟩ := List.mem_map.1 hc
  exact ⟨rfl, by simp [refs]⟩
theorem cellsC_imf : ∀ l : List Pl, ∀ c ∈ cellsC l, imf c = true ∧ refs c = []
  | [], c, h => by simp at h
  | d :: l, c, h => by
    have e : cellsC (d :: l) = vi d.x :: vi d.y :: cellsC l := rfl
    rw [e] at h
    rcases List.mem_cons.1 h with rfl | h
    · exact ⟨rfl, by simp [refs]⟩
    rcases List.mem_cons.1 h with rfl | h
    · exact ⟨rfl, by simp [refs]⟩
    · exact cellsC_imf l c h
theorem objs_th : ∀ (l : List Ki) (b j : Nat) (o o2 : VObj), (objsW b l)[j]? = some o → (objsT l)[j]? = some o2 → o2 = .dead ∨ ∃ cs, o = .obj cs ∧ o2 = .obj cs ∧ ∀ c ∈ cs, imf c = true ∧ refs c = []
  | [], b, j, o, o2, h, _ => by simp [objsW] at h
  | k :: l, b, 0, o, o2, _, h => by
    simp [objsT] at h
    exact .inl h.symm
  | k :: l, b, 1, o, o2, h1, h => by
    rw [objsW_cons] at h1
    simp [objsT] at h h1
    exact .inr ⟨_, h1.symm, h.symm, ints_imf _⟩
  | k :: l, b, j + 2, o, o2, h1, h => by
    rw [objsW_cons] at h1
    simp only [List.getElem?_cons_succ] at h1
    have e : objsT (k :: l) = .dead :: .obj (k.away.map vi) :: objsT l := rfl
    rw [e] at h
    simp only [List.getElem?_cons_succ] at h
    exact objs_th l (b + 2) j o o2 h1 h
theorem rows_imf : ∀ (l : List Ki) (b : Nat), ∀ x ∈ rowsW b l, x.length = 6 ∧ ∀ c ∈ x, imf c = true ∧ ∀ q ∈ refs c, ∃ j, j < l.length ∧ q = b + 2 * j + 1
  | [], b, x, h => by simp [rowsW] at h
  | k :: l, b, x, h => by
    rw [rowsW_cons] at h
    rcases List.mem_cons.1 h with rfl | h
    · refine ⟨rfl, fun c hc => ?_⟩
      simp only [List.mem_cons, List.not_mem_nil, or_false] at hc
      rcases hc with rfl | rfl | rfl | rfl | rfl | rfl
      · exact ⟨rfl, fun q hq => by simp [refs] at hq⟩
      · exact ⟨rfl, fun q hq => by simp [refs] at hq⟩
      · exact ⟨rfl, fun q hq => by simp [refs] at hq⟩
      · exact ⟨rfl, fun q hq => by simp [refs] at hq; exact ⟨0, by simp, by omega⟩⟩
      · exact ⟨rfl, fun q hq => by simp [refs] at hq⟩
      · exact ⟨rfl, fun q hq => by simp [refs] at hq⟩
    · obtain ⟨h1, h2⟩ := rows_imf l (b + 2) x h
      refine ⟨h1, fun c hc => ⟨(h2 c hc).1, fun q hq => ?_⟩⟩
      obtain ⟨j, hj, e⟩ := (h2 c hc).2 q hq
      exact ⟨j + 1, by simpa using hj, by omega⟩
theorem copyHall_th (h : Ha) (M : Mem) (F : Fin h) : VC Try.prog 18 [hallV h] M (fun r M' => ∃ X, (∀ e ∈ X, M.H.length ≤ e.1) ∧ M' = ⟨M.H ++ (.dead :: .dead :: VObj.obj (cellsC h.water) :: VObj.obj (cellsC h.shut) :: VObj.obj (h.bears.map vi) :: .obj (rowsW (M.H.length + 6) h.kinds).flatten :: objsT h.kinds), M.lg ++ X⟩ ∧ r = .agg [vi h.wide, vi h.deep, .bf (M.H.length + 2) 0 h.water.length 2, .bf (M.H.length + 3) 0 h.shut.length 2, vi h.bay.x, vi h.bay.y, .bf (M.H.length + 4) 0 h.bears.length 1, .bf (M.H.length + 5) 0 h.kinds.length 6]) := by
  have hn : (List.replicate M.H.length VObj.dead).length = M.H.length := by simp
  refine VC_fresh (fun a ha => by rw [List.mem_singleton] at ha; subst ha; rfl) (copyHall_sw h ⟨List.replicate M.H.length .dead, []⟩ F) ?_
  rintro r M1 ⟨lg, rfl, rfl⟩
  simp only [hn]
  have hl1 := objsW_len (M.H.length + 6) h.kinds
  have hl2 := objsT_len h.kinds
  refine ⟨_, [vi h.wide, vi h.deep, .bf (M.H.length + 2) 0 h.water.length 2, .bf (M.H.length + 3) 0 h.shut.length 2, vi h.bay.x, vi h.bay.y, .bf (M.H.length + 4) 0 h.bears.length 1, .bf (M.H.length + 5) 0 h.kinds.length 6], _, .dead :: .dead :: VObj.obj (cellsC h.water) :: VObj.obj (cellsC h.shut) :: VObj.obj (h.bears.map vi) :: .obj (rowsW (M.H.length + 6) h.kinds).flatten :: objsT h.kinds, (List.range h.kinds.length).map fun j => (M.H.length + 5, M.H.length + 6 + 2 * j + 1), rfl, rfl, ?_, rfl, ?_, ?_, ?_, ?_, ?_, _, ?_, rfl, rfl⟩
  · simp only [List.length_cons]
    omega
  · intro i x x2 hx hx2
    rcases i with _ | _ | _ | _ | _ | _ | _ | _ | i <;> simp only [List.getElem?_cons_zero, List.getElem?_cons_succ, List.getElem?_nil, Option.some.injEq, reduceCtorEq] at hx hx2 <;> subst hx hx2
    · exact .inl ⟨rfl, rfl⟩
    · exact .inl ⟨rfl, rfl⟩
    · exact .inl ⟨rfl, rfl⟩
    · exact .inl ⟨rfl, rfl⟩
    · exact .inl ⟨rfl, rfl⟩
    · exact .inl ⟨rfl, rfl⟩
    · exact .inl ⟨rfl, rfl⟩
    · exact .inr ⟨5, 6, _, rfl, by rw [rowsW_len], by rw [rowsW_len]; rfl, by omega⟩
  · intro j o o2 ho ho2
    rcases j with _ | _ | _ | _ | _ | _ | j
    all_goals simp only [List.getElem?_cons_zero, List.getElem?_cons_succ, Option.some.injEq] at ho ho2
    · exact .inl ho2.symm
    · exact .inl ho2.symm
    · exact .inr (.inl ⟨_, ho.symm, ho2.symm, fun c hc => (cellsC_imf _ c hc).1⟩)
    · exact .inr (.inl ⟨_, ho.symm, ho2.symm, fun c hc => (cellsC_imf _ c hc).1⟩)
    · exact .inr (.inl ⟨_, ho.symm, ho2.symm, fun c hc => (ints_imf _ c hc).1⟩)
    · refine .inr (.inr ⟨6, rowsW (M.H.length + 6) h.kinds, by rw [← ho, rowsW_len], ho2.symm, by simp [hobjW], by omega, fun x hx c hc => (((rows_imf _ _ x hx).2 c hc).1)⟩)
    · rcases objs_th h.kinds _ j o o2 ho ho2 with e | ⟨cs, e1, e2, e3⟩
      · exact .inl e
      · exact .inr (.inl ⟨cs, e1, e2, fun c hc => (e3 c hc).1⟩)
  · intro x hx q hq
    simp only [List.length_cons]
    simp only [List.mem_cons, List.not_mem_nil, or_false] at hx
    rcases hx with rfl | rfl | rfl | rfl | rfl | rfl | rfl | rfl <;> simp only [refs, List.mem_singleton, List.not_mem_nil] at hq <;> omega
  · intro j cs hj c hc q hq
    simp only [List.length_cons]
    rcases j with _ | _ | _ | _ | _ | _ | j
    all_goals simp only [List.getElem?_cons_zero, List.getElem?_cons_succ, Option.some.injEq, reduceCtorEq, VObj.obj.injEq] at hj
    · subst hj
      rw [(cellsC_imf _ c hc).2] at hq
      cases hq
    · subst hj
      rw [(cellsC_imf _ c hc).2] at hq
      cases hq
    · subst hj
      rw [(ints_imf _ c hc).2] at hq
      cases hq
    · subst hj
      obtain ⟨x, hx, hc⟩ := List.mem_flatten.1 hc
      obtain ⟨i, hi, rfl⟩ := ((rows_imf _ _ x hx).2 c hc).2 q hq
      refine ⟨by omega, by omega, .inr (List.mem_map.2 ⟨i, List.mem_range.2 hi, rfl⟩)⟩
    · have hjl : j < (objsW (M.H.length + 6) h.kinds).length := by
        have := (List.getElem?_eq_some_iff.1 hj).1
        omega
      rcases objs_th h.kinds (M.H.length + 6) j _ _ (List.getElem?_eq_getElem hjl) hj with e | ⟨cs1, e1, e2, e3⟩
      · cases e
      · cases e2
        rw [(e3 c hc).2] at hq
        cases hq
  · intro e he
    obtain ⟨i, hi, rfl⟩ := List.mem_map.1 he
    have := List.mem_range.1 hi
    simp only [List.length_cons]
    omega
  · intro e he
    obtain ⟨i, hi, rfl⟩ := List.mem_map.1 he
    simp only
    omega
end Go.Proofs.Ytijcmgfblpokhaa.Vm

/- Stronger vaults, lighter stalls: plain facts. (Vm) -/
namespace Go.Proofs.Ytijcmgfblpokhaa.Vm
open Go Go.Proofs
structure KStr (k k' : Ki) : Prop where
  lo : k'.lo ≤ k.lo
  hi : k'.hi ≤ k.hi
  water : k'.water = k.water
  away : ∀ j, k'.away.getD j 0 ≤ k.away.getD j 0
  rent : k.rent ≤ k'.rent
  most : k.most ≤ k'.most
structure HStr (h x : Ha) : Prop where
  wide : x.wide = h.wide
  deep : x.deep = h.deep
  water : x.water = h.water
  shut : x.shut = h.shut
  bay : x.bay = h.bay
  blen : x.bears.length = h.bears.length
  bears : ∀ i, h.bears.getD i 0 ≤ x.bears.getD i 0
  klen : x.kinds.length = h.kinds.length
  kinds : ∀ (i : Nat) (k k' : Ki), h.kinds[i]? = some k → x.kinds[i]? = some k' → KStr k k'
theorem HStr.kAt {h x : Ha} (S : HStr h x) {n : Int} (h0 : 0 ≤ n) (h1 : n < h.kinds.length) : KStr (kAt h n) (Go.Proofs.Ytijcmgfblpokhaa.kAt x n) := by
  have e1 : h.kinds[n.toNat]? = some (Go.Proofs.Ytijcmgfblpokhaa.kAt h n) := by
    unfold Go.Proofs.Ytijcmgfblpokhaa.kAt
    rw [List.getD_eq_getElem?_getD, List.getElem?_eq_getElem (show n.toNat < h.kinds.length by omega)]; rfl
  have e2 : x.kinds[n.toNat]? = some (Go.Proofs.Ytijcmgfblpokhaa.kAt x n) := by
    unfold Go.Proofs.Ytijcmgfblpokhaa.kAt
    have := S.klen
    rw [List.getD_eq_getElem?_getD, List.getElem?_eq_getElem (show n.toNat < x.kinds.length by omega)]; rfl
  exact S.kinds _ _ _ e1 e2
theorem HStr.isPl {h x : Ha} (S : HStr h x) (c : Pl) : isPl x c = Go.Proofs.Ytijcmgfblpokhaa.isPl h c := by
  unfold Go.Proofs.Ytijcmgfblpokhaa.isPl
  rw [S.wide, S.deep]
theorem HStr.isKind {h x : Ha} (S : HStr h x) (n : Int) : isKind x n = Go.Proofs.Ytijcmgfblpokhaa.isKind h n := by
  unfold Go.Proofs.Ytijcmgfblpokhaa.isKind
  rw [S.klen]
theorem HStr.bayOf {h x : Ha} (S : HStr h x) (c : Pl) : bayOf x c = Go.Proofs.Ytijcmgfblpokhaa.bayOf h c := by
  unfold Go.Proofs.Ytijcmgfblpokhaa.bayOf colsOf
  rw [S.wide, S.bay]
theorem sum_le {α : Type} {f g : α → Int} : ∀ {l : List α}, (∀ p ∈ l, f p ≤ g p) → (l.map f).sum ≤ (l.map g).sum
  | [], _ => Int.le_refl _
  | p :: l, h => by
    have h1 := h p (List.mem_cons_self ..)
    have h2 := sum_le (l := l) fun q hq => h q (List.mem_cons_of_mem _ hq)
    simp only [List.map_cons, List.sum_cons]
    omega
theorem HStr.rent {h x : Ha} (S : HStr h x) {l : List Pu} (hg : ∀ o ∈ l, Go.Proofs.Ytijcmgfblpokhaa.isKind h o.kind = true) : rentOf h l ≤ rentOf x l := by
  unfold rentOf
  refine sum_le fun p hp => ?_
  have := hg p hp
  unfold Go.Proofs.Ytijcmgfblpokhaa.isKind at this
  rw [inR_true] at this
  exact (S.kAt this.1 (by omega)).rent
theorem HStr.lay {h x : Ha} (S : HStr h x) {l : List Pu} (hl : LayOk h l) : LayOk x l := by
  have hk : ∀ o ∈ l, 0 ≤ o.kind ∧ o.kind < h.kinds.length := fun o ho => by
    have := (hl.good o ho).2
    unfold Go.Proofs.Ytijcmgfblpokhaa.isKind at this
    rw [inR_true] at this
    omega
  refine ⟨hl.1, fun p hp => ?_, ?_, fun k q hq => ?_⟩
  · have h1 := hl.2.1 p hp
    obtain ⟨k0, k1⟩ := hk p hp
    unfold ownB at h1 ⊢
    rw [S.isPl, S.shut, S.isKind, S.water, (S.kAt k0 k1).water]
    exact h1
  · have hp := hl.2.2.1
    rw [List.pairwise_iff_getElem] at hp ⊢
    intro i j hi hj hij
    obtain ⟨c1, c2⟩ := hp i j hi hj hij
    refine ⟨c1, ?_⟩
    obtain ⟨a0, a1⟩ := hk _ (List.getElem_mem hi)
    obtain ⟨b0, b1⟩ := hk _ (List.getElem_mem hj)
    generalize l[i] = o at c1 c2 a0 a1
    generalize l[j] = p at c1 c2 b0 b1
    have s1 := (S.kAt a0 a1).away p.kind.toNat
    have s2 := (S.kAt b0 b1).away o.kind.toNat
    unfold clash at c2 ⊢
    rw [decide_eq_false_iff_not] at c2 ⊢
    unfold awAt at c2 ⊢
    omega
  · have hlt := (List.getElem?_eq_some_iff.1 hq).1
    rw [S.klen] at hlt
    have h1 := List.getElem?_eq_getElem hlt
    have h2 := hl.2.2.2 k _ h1
    have h3 := (S.kinds k _ q h1 hq).most
    omega
theorem HStr.loadHi {h x : Ha} (S : HStr h x) {l : List Pu} (hl : LayOk h l) (b : Nat) : (loadAt x l b).hi ≤ (loadAt h l b).hi := by
  unfold loadAt
  simp only [S.bayOf]
  refine sum_le fun p hp => ?_
  have hm := (List.mem_filter.1 hp).1
  have := (hl.good p hm).2
  unfold Go.Proofs.Ytijcmgfblpokhaa.isKind at this
  rw [inR_true] at this
  exact (S.kAt this.1 (by omega)).hi
theorem verdict_one {h : Ha} {l : List Pu} : verdictOf h l = 1 ↔ fitsHi h l h.bears.length = true := by
  unfold verdictOf
  cases hq : fitsHi h l h.bears.length with
  | true => simp
  | false => cases hq2 : fitsLo h l h.bears.length <;> simp
theorem HStr.inA {h x : Ha} (S : HStr h x) {l : List Pu} (a : InA h l) : InA x l := by
  obtain ⟨a1, a2⟩ := a
  rw [allowedB_iff] at a1
  refine ⟨?_, ?_⟩
  · rw [allowedB_iff]
    refine ⟨S.lay a1.1, ?_⟩
    have h2 := verdict_one.1 a1.2
    rw [verdict_one]
    unfold fitsHi at h2 ⊢
    rw [List.all_eq_true] at h2 ⊢
    rw [S.blen]
    intro i hi
    have h3 := h2 i hi
    rw [decide_eq_true_eq] at h3 ⊢
    have h4 := S.loadHi a1.1 i
    have h5 := S.bears i
    omega
  · unfold placesL at a2 ⊢
    rw [S.wide, S.deep]
    exact a2
/-- the best layout earns no less -/
theorem stronger_best {h x : Ha} (V : VH h) (Vx : VH x) (S : HStr h x) : rentOf h (bestL h) ≤ rentOf x (bestL x) := by
  obtain ⟨_, a1, _⟩ := best_spec V
  obtain ⟨_, _, b2⟩ := best_spec Vx
  have h1 := b2 _ (S.inA a1)
  have h2 := S.rent (l := bestL h) fun o ho => ((allowedB_iff.1 a1.1).1.good o ho).2
  rcases h1 with h1 | ⟨h1, _⟩ <;> omega
end Go.Proofs.Ytijcmgfblpokhaa.Vm

/- The law of stronger vaults, on values. (Vm) -/
namespace Go.Proofs.Ytijcmgfblpokhaa.Vm
open Go Go.Proofs
attribute [local irreducible] castF castU fromF fromU oneF oneU
structure BS (l m : List Int) : Prop where
  len : m.length = l.length
  ge : ∀ j, l.getD j 0 ≤ m.getD j 0 ∧ m.getD j 0 ≤ l.getD j 0 + 60
theorem BS.refl (l : List Int) : BS l l := ⟨rfl, fun j => ⟨Int.le_refl _, by omega⟩⟩
theorem getD_set {m : List Int} {i : Nat} {x : Int} (hi : i < m.length) (j : Nat) : (m.set i x).getD j 0 = if i = j then x else m.getD j 0 := by
  rw [List.getD_eq_getElem?_getD, List.getElem?_set]
  by_cases h : i = j
  · subst h
    rw [if_pos rfl, if_pos rfl, if_pos hi]; rfl
  · rw [if_neg h, if_neg h, ← List.getD_eq_getElem?_getD]
theorem BS.up {l m : List Int} (h : BS l m) {i : Nat} {q : Int} (e : m.getD i 0 = l.getD i 0) (hi : i < m.length) (hq : 0 ≤ q ∧ q ≤ 60) : BS l (m.set i (m.getD i 0 + q)) := by
  refine ⟨by rw [List.length_set]; exact h.len, fun j => ?_⟩
  rw [getD_set hi]
  by_cases hj : i = j
  · subst hj
    rw [if_pos rfl]; omega
  · rw [if_neg hj]; exact h.ge j
structure AS (n : Nat) (l m : List Int) : Prop where
  len : m.length = n
  aw : ∀ x ∈ m, 0 ≤ x ∧ x ≤ 3
  le : ∀ j, m.getD j 0 ≤ l.getD j 0
theorem AS.refl {n : Nat} {l : List Int} (h : l.length = n) (h' : ∀ x ∈ l, 0 ≤ x ∧ x ≤ 3) : AS n l l := ⟨h, h', fun _ => Int.le_refl _⟩
theorem AS.up {n : Nat} {l m : List Int} (h : AS n l m) {i : Nat} {q : Int} (hi : i < m.length) (hq : 0 ≤ q ∧ q ≤ m.getD i 0) : AS n l (m.set i q) := by
  have hm : 0 ≤ m.getD i 0 ∧ m.getD i 0 ≤ 3 := by
    refine h.aw _ ?_
    rw [List.getD_eq_getElem?_getD, List.getElem?_eq_getElem hi]
    exact List.getElem_mem hi
  refine ⟨by rw [List.length_set]; exact h.len, fun x hx => ?_, fun j => ?_⟩
  · rcases List.mem_or_eq_of_mem_set hx with hx | rfl
    · exact h.aw x hx
    · omega
  · rw [getD_set hi]
    by_cases hj : i = j
    · subst hj
      rw [if_pos rfl]
      exact Int.le_trans hq.2 (h.le i)
    · rw [if_neg hj]; exact h.le j
structure KS (n : Nat) (k k' : Ki) : Prop where
  str : KStr k k'
  lo : 0 ≤ k'.lo
  le : k'.lo ≤ k'.hi
  hi : k'.hi ≤ 60
  len : k'.away.length = n
  aw : ∀ x ∈ k'.away, 0 ≤ x ∧ x ≤ 3
  rent : 0 ≤ k'.rent ∧ k'.rent ≤ 100
  most : 0 ≤ k'.most ∧ k'.most ≤ 20
theorem KS.refl {n : Nat} {k : Ki} (g : KGood n k) : KS n k k :=
  ⟨⟨Int.le_refl _, Int.le_refl _, rfl, fun _ => Int.le_refl _, Int.le_refl _, Int.le_refl _⟩, g.lo, g.le, g.hi, g.len, g.aw, by have := g.rent; omega, by have := g.most; omega⟩
theorem KS.upd {n : Nat} {k : Ki} (g : KGood n k) {aw : List Int} (h : AS n k.away aw) {lo q2 q3 q4 : Int} (h1 : 0 ≤ lo ∧ lo ≤ k.lo) (h2 : 0 ≤ q2 ∧ k.lo + q2 ≤ k.hi) (h3 : 0 ≤ q3 ∧ q3 ≤ 9) (h4 : 0 ≤ q4 ∧ q4 ≤ 2) : KS n k ⟨lo, k.lo + q2, k.water, aw, k.rent + q3, k.most + q4⟩ := by
  obtain ⟨g1, g2, g3, g4, g5, g6, g7⟩ := g
  exact ⟨⟨h1.2, h2.2, rfl, h.le, by show k.rent ≤ k.rent + q3; omega, by show k.most ≤ k.most + q4; omega⟩, h1.1, by show lo ≤ k.lo + q2; omega, by show k.lo + q2 ≤ 60; omega, h.len, h.aw, by show 0 ≤ k.rent + q3 ∧ k.rent + q3 ≤ 100; omega, by show 0 ≤ k.most + q4 ∧ k.most + q4 ≤ 20; omega⟩
theorem inA_lay {h : Ha} {x : List Pu} (a : InA h x) (hv : hallErr h = 0) : layoutErr h x = 0 := layout_ok.2 ⟨hv, layErr_zero.2 (allowedB_iff.1 a.1).1⟩
theorem inA_len {h : Ha} {x : List Pu} (a : InA h x) : x.length ≤ 24 := (allowedB_iff.1 a.1).1.1
theorem kind_zero2 {h : Ha} {k : Ki} (v : VK h k) : kindErr h k = 0 := by
  obtain ⟨g1, g2, g3, g4, g5, g6, g7, g8, g9⟩ := v
  have a1 : inR k.lo 0 1000000 = true := inR_true.2 (by omega)
  have a2 : inR k.hi 0 1000000 = true := inR_true.2 (by omega)
  have a3 : inR k.rent 0 1000000 = true := inR_true.2 (by omega)
  have a4 : inR k.most 0 24 = true := inR_true.2 (by omega)
  have a5 : (k.away.any fun n => !inR n 0 9) = false := by
    rw [List.any_eq_false]
    intro n hn
    have := g5 n hn
    rw [inR_true.2 this]; simp
  unfold kindErr
  rw [a1, a2, a3, a4, a5, if_neg (by simp), if_neg (by omega), if_neg (by omega), if_neg (by simp), if_neg (by simp)]
theorem hall_zero2 {h : Ha} (V : VH h) : hallErr h = 0 := by
  have a1 : inR h.wide 1 6 = true := inR_true.2 ⟨V.w1, V.w2⟩
  have a2 : inR h.deep 1 4 = true := inR_true.2 ⟨V.d1, V.d2⟩
  have a3 : inR h.bay.x 1 h.wide = true := inR_true.2 ⟨V.x1, V.x2⟩
  have a4 : inR h.bay.y 1 h.deep = true := inR_true.2 ⟨V.y1, V.y2⟩
  have a5 : (h.bears.any fun n => !inR n 0 10000000) = false := by
    rw [List.any_eq_false]
    intro n hn
    rw [inR_true.2 (V.bearsIn n hn)]; simp
  have a6 : firstErr (kindErrAt h) h.kinds.length = 0 := by
    rw [firstErr_zero]
    intro i hi
    unfold kindErrAt
    rw [List.getElem?_eq_getElem hi]
    exact kind_zero2 (V.kind _ (List.getElem_mem hi))
  have k0 := V.kinds0
  have k6 := V.kinds6
  have hb := V.bears
  unfold hallErr
  rw [a1, a2, a3, a4, a5, a6, if_neg (by simp), if_neg (by simp [V.water]), if_neg (by simp [V.shut]), if_neg (by simp), if_neg (by simp [hb]), if_neg (by simp), if_neg (by omega), if_neg (by omega)]
set_option maxHeartbeats 8000000 in
set_option maxRecDepth 100000 in
theorem stronger_law_v (awake : ∀ M, VC Try.prog 15 [] M (fun r M' => M' = M ∧ r = vb true)) (xs : List Int) (M : Mem) (hl : xs.length ≤ maxLen) : VC Try.prog 9 [intsV xs] M (fun r M' => M' = M ∧ r = vb true) := by
  refine VC_own' T_ok (f := 9) (fn := Try.f9) (by kernel_rfl) rfl Try.ntmps9 (by rfl) (by rfl) ?_
  ((repeat refine W_seq ?_); refine W_region0 T_ok ?_)
  simp (maxSteps := 1000000) only [VL, VM, ↓Gd_none, ↓Gd_t, ↓Gd_f, reduceIte, reduceCtorEq, Int.reduceLE, Int.reduceLT, Int.reduceToNat, Int.reduceNeg, Nat.reduceLT, Nat.reduceEqDiff, Nat.reduceAdd, Nat.reduceSub, Nat.reduceMul, Nat.reduceLeDiff]
  ((repeat refine W_seq ?_); refine W_region0 T_ok ?_)
  simp (maxSteps := 1000000) only [VL, VM, ↓Gd_none, ↓Gd_t, ↓Gd_f, reduceIte, reduceCtorEq, Int.reduceLE, Int.reduceLT, Int.reduceToNat, Int.reduceNeg, Nat.reduceLT, Nat.reduceEqDiff, Nat.reduceAdd, Nat.reduceSub, Nat.reduceMul, Nat.reduceLeDiff]
  apply call_eq (f := 17) (fn := Try.f17) (by kernel_rfl) (by rfl)
  · exact dieOf_v xs M hl
  obtain ⟨H0, hH0⟩ : ∃ H0, H0 = M.H ++ [VObj.dead] := ⟨_, rfl⟩
  obtain ⟨d, hdd⟩ : ∃ d, d = M.H.length := ⟨_, rfl⟩
  have hd : d < H0.length := by rw [hH0, hdd]; simp
  have hlen0 : H0.length = M.H.length + 1 := by rw [hH0]; simp
  rw [← hH0, ← hdd]
  have tail : ∀ u L, DH H0 d u L = M.H ++ (.obj [uv u] :: L) := fun u L => by rw [hH0, hdd]; exact DH_tail M u L
  generalize dieU xs = u0
  simp (maxSteps := 1000000) only [VL, VM, ↓Gd_none, ↓Gd_t, ↓Gd_f, reduceIte, reduceCtorEq, Int.reduceLE, Int.reduceLT, Int.reduceToNat, Int.reduceNeg, Nat.reduceLT, Nat.reduceEqDiff, Nat.reduceAdd, Nat.reduceSub, Nat.reduceMul, Nat.reduceLeDiff]
  ((repeat refine W_seq ?_); refine W_region0 T_ok ?_)
  simp (maxSteps := 1000000) only [VL, VM, ↓Gd_none, ↓Gd_t, ↓Gd_f, reduceIte, reduceCtorEq, Int.reduceLE, Int.reduceLT, Int.reduceToNat, Int.reduceNeg, Nat.reduceLT, Nat.reduceEqDiff, Nat.reduceAdd, Nat.reduceSub, Nat.reduceMul, Nat.reduceLeDiff]
  refine fn_call (f := 16) (fn := Try.f16) (by kernel_rfl) (by rfl) ?_
  refine (hallOf_v hd u0 M.lg 3 2 2 (by omega) (by omega) (by omega)).mono ?_
  rintro _ _ ⟨h, u1, wd, dp, rfl, rfl, hG, hW, hD, hN⟩
  have hv := hG.ok
  have V := VH.of hv
  have F := hG.fin
  have hb6 := F.bears
  have hwd := hG.w
  have hdp := hG.d
  have hw3 : h.wide ≤ 3 := by omega
  have hd2 : h.deep ≤ 2 := by omega
  have hcases : (∃ a, h.kinds = [a]) ∨ ∃ a b, h.kinds = [a, b] := by
    have h1 := hG.k1
    match hk : h.kinds, h1, hN with
    | [a], _, _ => exact .inl ⟨a, rfl⟩
    | [a, b], _, _ => exact .inr ⟨a, b, rfl⟩
    | _ :: _ :: _ :: _, _, h2 =>
      simp only [List.length_cons] at h2
      omega
  simp (maxSteps := 1000000) only [VL, VM, ↓Gd_none, ↓Gd_t, ↓Gd_f, reduceIte, reduceCtorEq, Int.reduceLE, Int.reduceLT, Int.reduceToNat, Int.reduceNeg, Nat.reduceLT, Nat.reduceEqDiff, Nat.reduceAdd, Nat.reduceSub, Nat.reduceMul, Nat.reduceLeDiff, DH_app hd, DH_len, DH_len0, DH_get hd, DH_get0 hd, DH_set hd, DH_set0 hd, DH_setd, DH_die hd]
  ((repeat refine W_seq ?_); refine W_region0 T_ok ?_)
  simp (maxSteps := 1000000) only [VL, VM, ↓Gd_none, ↓Gd_t, ↓Gd_f, reduceIte, reduceCtorEq, Int.reduceLE, Int.reduceLT, Int.reduceToNat, Int.reduceNeg, Nat.reduceLT, Nat.reduceEqDiff, Nat.reduceAdd, Nat.reduceSub, Nat.reduceMul, Nat.reduceLeDiff, DH_app hd, DH_len, DH_len0, DH_get hd, DH_get0 hd, DH_set hd, DH_set0 hd, DH_setd, DH_die hd]
  refine fn_call (f := 18) (fn := Try.f18) (by kernel_rfl) (by rfl) ?_
  refine (copyHall_th h _ F).mono ?_
  rintro _ _ ⟨X, hX, rfl, rfl⟩
  simp only [DH_app hd, DH_len, DH_len0, DH_get hd, DH_get0 hd, DH_set hd, DH_set0 hd, DH_setd, DH_die hd, List.length_cons, List.length_nil, Nat.add_assoc, Nat.reduceAdd] at hX ⊢
  rcases hcases with ⟨a, hk⟩ | ⟨a, b, hk⟩
  · have ga : KGood 1 a := by
      have := hG.ks a (by rw [hk]; simp)
      rwa [hk] at this
    have r1 : (rowsW (H0.length + 7) h.kinds).flatten = [vi a.lo, vi a.hi, vb a.water, .bf (H0.length + 8) 0 a.away.length 1, vi a.rent, vi a.most] := by
      rw [hk]
      rfl
    have r2 : objsT h.kinds = [.dead, .obj (List.map vi a.away)] := by
      rw [hk]
      rfl
    have r3 : h.kinds.length = 1 := by
      rw [hk]
      rfl
    rw [r1, r2, r3, ga.len]
    simp (maxSteps := 1000000) only [VL, VM, ↓Gd_none, ↓Gd_t, ↓Gd_f, reduceIte, reduceCtorEq, Int.reduceLE, Int.reduceLT, Int.reduceToNat, Int.reduceNeg, Nat.reduceLT, Nat.reduceEqDiff, Nat.reduceAdd, Nat.reduceSub, Nat.reduceMul, Nat.reduceLeDiff, DH_app hd, DH_len, DH_len0, DH_get hd, DH_get0 hd, DH_set hd, DH_set0 hd, DH_setd, DH_die hd]
    obtain ⟨Y, y1, y2⟩ := addLg_Y (H0.length + 9) [H0.length + 3, H0.length + 4, H0.length + 5, H0.length + 6] (M.lg ++ X)
    rw [y1]
    have hXY : ∃ Z, M.lg ++ X ++ Y = M.lg ++ Z ∧ ∀ e ∈ Z, M.H.length ≤ e.1 := ⟨X ++ Y, List.append_assoc _ _ _, fun e he => by
      rcases List.mem_append.1 he with he | he
      · have := hX e he
        omega
      · have := (y2 e he).1
        omega⟩
    generalize M.lg ++ X ++ Y = lg at hXY ⊢
    clear y1 y2 hX
    ((repeat refine W_seq ?_); refine W_region0 T_ok ?_)
    simp (maxSteps := 1000000) only [VL, VM, ↓Gd_none, ↓Gd_t, ↓Gd_f, reduceIte, reduceCtorEq, Int.reduceLE, Int.reduceLT, Int.reduceToNat, Int.reduceNeg, Nat.reduceLT, Nat.reduceEqDiff, Nat.reduceAdd, Nat.reduceSub, Nat.reduceMul, Nat.reduceLeDiff]
    ((repeat refine W_seq ?_); refine W_block ?_; (repeat refine W_seq ?_)); refine W_loopS (fun s : Nat × Int × List Int => [(3, .ptr d 0), (4, .ptr H0.length 0), (5, .ptr (H0.length + 9) 0), (6, vi s.1)]) (fun s => ⟨DH H0 d s.2.1 [.obj (hallC h), .dead, .dead, .obj (cellsC h.water), .obj (cellsC h.shut), .obj (List.map vi s.2.2), .obj [vi a.lo, vi a.hi, vb a.water, .bf (H0.length + 8) 0 1 1, vi a.rent, vi a.most], .dead, .obj (List.map vi a.away), .obj [vi h.wide, vi h.deep, .bf (H0.length + 3) 0 h.water.length 2, .bf (H0.length + 4) 0 h.shut.length 2, vi h.bay.x, vi h.bay.y, .bf (H0.length + 5) 0 h.bears.length 1, .bf (H0.length + 6) 0 1 6]], lg⟩) (fun s => h.bears.length - s.1) (fun s => s.1 ≤ h.bears.length ∧ BS h.bears s.2.2 ∧ ∀ j, s.1 ≤ j → s.2.2.getD j 0 = h.bears.getD j 0) (0, u1, h.bears) ⟨Nat.zero_le _, BS.refl _, fun _ _ => rfl⟩ ⟨rfl, rfl, rfl, rfl, trivial⟩ rfl ?_
    rintro ⟨i, u, bs⟩ ⟨hi, hbs, hun⟩
    simp only at hi hbs hun
    have hbl := hbs.len
    have k1 : -9223372036854775808 ≤ (i : Int) + 1 ∧ (i : Int) + 1 < 9223372036854775808 := by omega
    ((repeat refine W_seq ?_); refine W_region0 T_ok ?_)
    rcases Nat.lt_or_ge i h.bears.length with hlt | hge
    · have k2 : ((i : Int) < (h.bears.length : Int)) = True := eq_true (by omega)
      have hx : bs[i]? = some (bs.getD i 0) := by
        rw [List.getD_eq_getElem?_getD, List.getElem?_eq_getElem (show i < bs.length by omega)]; rfl
      have hx0 := hun i (Nat.le_refl _)
      have hx9 : 0 ≤ h.bears.getD i 0 ∧ h.bears.getD i 0 ≤ 300 := by
        refine hG.bs _ ?_
        rw [List.getD_eq_getElem?_getD, List.getElem?_eq_getElem hlt]
        exact List.getElem_mem hlt
      have hup := fun q (h0 : 0 ≤ q ∧ q ≤ 60) => hbs.up (i := i) (q := q) hx0 (by omega) h0
      have hun2 : ∀ q j, i + 1 ≤ j → (bs.set i q).getD j 0 = h.bears.getD j 0 := fun q j hj => by
        rw [List.getD_eq_getElem?_getD, List.getElem?_set_ne (by omega), ← List.getD_eq_getElem?_getD]
        exact hun j (by omega)
      generalize bs.getD i 0 = x at hx hx0 hup
      rw [← hx0] at hx9
      have hx1 : (List.map vi bs)[i]? = some (vi x) := by rw [List.getElem?_map, hx]; rfl
      have hx3 : (i + 1 ≤ bs.length) = True := eq_true (by omega)
      have c1 := castF_range (u := u) (n := 60) (by omega)
      have ho := oneF_mem (u := castU u 60) (xs := [0, castF u 60]) (by simp) (by simp)
      simp (maxSteps := 1000000) only [VL, VM, ↓Gd_none, ↓Gd_t, ↓Gd_f, reduceIte, reduceCtorEq, Int.reduceLE, Int.reduceLT, Int.reduceToNat, Int.reduceNeg, Nat.reduceLT, Nat.reduceEqDiff, Nat.reduceAdd, Nat.reduceSub, Nat.reduceMul, Nat.reduceLeDiff, k2, DH_app hd, DH_len, DH_len0, DH_get hd, DH_get0 hd, DH_set hd, DH_set0 hd, DH_setd, DH_die hd]
      ((repeat refine W_seq ?_); refine W_cond (b := true) (by first | rfl | simp only [ev, get_cons, Nat.reduceEqDiff, if_true, if_false, reduceIte]) (fun _ => ?_) (fun h => by cases h))
      ((repeat refine W_seq ?_); refine W_skip ?_)
      simp (maxSteps := 1000000) only [VL, VM, ↓Gd_none, ↓Gd_t, ↓Gd_f, reduceIte, reduceCtorEq, Int.reduceLE, Int.reduceLT, Int.reduceToNat, Int.reduceNeg, Nat.reduceLT, Nat.reduceEqDiff, Nat.reduceAdd, Nat.reduceSub, Nat.reduceMul, Nat.reduceLeDiff]
      ((repeat refine W_seq ?_); refine W_block ?_)
      (repeat refine W_seq ?_)
      refine W_drawP T_ok [] (by kernel_rfl) (by kernel_rfl) ?_
      generalize hi : mkPlan _ = infs
      cbv at hi
      subst hi
      simp (maxSteps := 1000000) only [VL, VM, ↓Gd_none, ↓Gd_t, ↓Gd_f, reduceIte, reduceCtorEq, Int.reduceLE, Int.reduceLT, Int.reduceToNat, Int.reduceNeg, Nat.reduceLT, Nat.reduceEqDiff, Nat.reduceAdd, Nat.reduceSub, Nat.reduceMul, Nat.reduceLeDiff, DH_app hd, DH_len, DH_len0, DH_get hd, DH_get0 hd, DH_set hd, DH_set0 hd, DH_setd, DH_die hd, eq_true hlt, hx1]
      apply call_d (f := 45) (fn := Try.f45) (by kernel_rfl) (by rfl)
      · exact cast_c hd u 60 _ (by omega)
      simp (maxSteps := 1000000) only [VL, VM, ↓Gd_none, ↓Gd_t, ↓Gd_f, reduceIte, reduceCtorEq, Int.reduceLE, Int.reduceLT, Int.reduceToNat, Int.reduceNeg, Nat.reduceLT, Nat.reduceEqDiff, Nat.reduceAdd, Nat.reduceSub, Nat.reduceMul, Nat.reduceLeDiff, DH_app hd, DH_len, DH_len0, DH_get hd, DH_get0 hd, DH_set hd, DH_set0 hd, DH_setd, DH_die hd, eq_true hlt, hx1]
      apply call_d (f := 44) (fn := Try.f44) (by kernel_rfl) (by rfl)
      · exact one_c hd (castU u 60) [0, castF u 60] _ (by simp) (by simp)
      generalize castF u 60 = y1 at *
      generalize castU u 60 = v1 at *
      generalize hb9 : oneF v1 [0, y1] = b9 at *
      clear hb9
      generalize oneU v1 [0, y1] = v2
      have hb0 : 0 ≤ b9 ∧ b9 ≤ 60 := by
        simp only [List.mem_cons, List.not_mem_nil, or_false] at ho
        rcases ho with ho | ho <;> rw [ho] <;> omega
      have r1 : -9223372036854775808 ≤ x + b9 ∧ x + b9 < 9223372036854775808 := by omega
      have hx2 : List.map vi (List.take i bs) ++ vi (x + b9) :: List.map vi (List.drop (i + 1) bs) = List.map vi (bs.set i (x + b9)) := by
        rw [List.set_eq_take_append_cons_drop, if_pos (by omega)]
        simp
      simp (maxSteps := 1000000) only [VL, VM, ↓Gd_none, ↓Gd_t, ↓Gd_f, reduceIte, reduceCtorEq, Int.reduceLE, Int.reduceLT, Int.reduceToNat, Int.reduceNeg, Nat.reduceLT, Nat.reduceEqDiff, Nat.reduceAdd, Nat.reduceSub, Nat.reduceMul, Nat.reduceLeDiff, DH_app hd, DH_len, DH_len0, DH_get hd, DH_get0 hd, DH_set hd, DH_set0 hd, DH_setd, DH_die hd, eq_true hlt, hx1, r1, hx2, hx3]
      ((repeat refine W_seq ?_); refine W_region0 T_ok ?_)
      simp (maxSteps := 1000000) only [VL, VM, ↓Gd_none, ↓Gd_t, ↓Gd_f, reduceIte, reduceCtorEq, Int.reduceLE, Int.reduceLT, Int.reduceToNat, Int.reduceNeg, Nat.reduceLT, Nat.reduceEqDiff, Nat.reduceAdd, Nat.reduceSub, Nat.reduceMul, Nat.reduceLeDiff, k1]
      exact LoopK.mk (i + 1, v2, bs.set i (x + b9)) (by simp only; omega) ⟨by simp only; omega, hup b9 hb0, hun2 _⟩ ⟨rfl, rfl, rfl, rfl, trivial⟩ rfl
    have k2 : ((i : Int) < (h.bears.length : Int)) = False := eq_false (by omega)
    simp (maxSteps := 1000000) only [VL, VM, ↓Gd_none, ↓Gd_t, ↓Gd_f, reduceIte, reduceCtorEq, Int.reduceLE, Int.reduceLT, Int.reduceToNat, Int.reduceNeg, Nat.reduceLT, Nat.reduceEqDiff, Nat.reduceAdd, Nat.reduceSub, Nat.reduceMul, Nat.reduceLeDiff, k2, DH_app hd, DH_len, DH_len0, DH_get hd, DH_get0 hd, DH_set hd, DH_set0 hd, DH_setd, DH_die hd]
    ((repeat refine W_seq ?_); refine W_cond (b := false) (by first | rfl | simp only [ev, get_cons, Nat.reduceEqDiff, if_true, if_false, reduceIte]) (fun h => by cases h) (fun _ => ?_))
    ((repeat refine W_seq ?_); refine W_exit ?_)
    simp (maxSteps := 1000000) only [VL, VM, ↓Gd_none, ↓Gd_t, ↓Gd_f, reduceIte, reduceCtorEq, Int.reduceLE, Int.reduceLT, Int.reduceToNat, Int.reduceNeg, Nat.reduceLT, Nat.reduceEqDiff, Nat.reduceAdd, Nat.reduceSub, Nat.reduceMul, Nat.reduceLeDiff]
    clear hun hge k2 k1 hi
    ((repeat refine W_seq ?_); refine W_region0 T_ok ?_)
    simp (maxSteps := 1000000) only [VL, VM, ↓Gd_none, ↓Gd_t, ↓Gd_f, reduceIte, reduceCtorEq, Int.reduceLE, Int.reduceLT, Int.reduceToNat, Int.reduceNeg, Nat.reduceLT, Nat.reduceEqDiff, Nat.reduceAdd, Nat.reduceSub, Nat.reduceMul, Nat.reduceLeDiff, DH_app hd, DH_len, DH_len0, DH_get hd, DH_get0 hd, DH_set hd, DH_set0 hd, DH_setd, DH_die hd]
    ((repeat refine W_seq ?_); refine W_block ?_; (repeat refine W_seq ?_)); refine W_loopS (fun s : Nat × Int × Ki => [(3, .ptr d 0), (4, .ptr H0.length 0), (5, .ptr (H0.length + 9) 0), (7, vi (s.1 : Int))]) (fun s => ⟨DH H0 d s.2.1 [.obj (hallC h), .dead, .dead, .obj (cellsC h.water), .obj (cellsC h.shut), .obj (List.map vi bs), .obj [vi s.2.2.lo, vi s.2.2.hi, vb s.2.2.water, .bf (H0.length + 8) 0 1 1, vi s.2.2.rent, vi s.2.2.most], .dead, .obj (List.map vi s.2.2.away), .obj [vi h.wide, vi h.deep, .bf (H0.length + 3) 0 h.water.length 2, .bf (H0.length + 4) 0 h.shut.length 2, vi h.bay.x, vi h.bay.y, .bf (H0.length + 5) 0 h.bears.length 1, .bf (H0.length + 6) 0 1 6]], lg⟩) (fun s => 1 - s.1) (fun s => s.1 ≤ 1 ∧ KS 1 a s.2.2 ∧ (s.1 ≤ 0 → s.2.2 = a)) (0, u, a) ⟨by omega, KS.refl ga, fun _ => rfl⟩ ⟨rfl, rfl, rfl, rfl, trivial⟩ rfl ?_
    clear u
    rintro ⟨i, u, p⟩ ⟨hi, sp, ep⟩
    simp only at hi sp ep
    have hcase : i = 0 ∨ i = 1 := by omega
    rcases hcase with rfl | rfl
    · obtain rfl := (ep (Nat.le_refl _)).symm
      have k2 : (((0 : Nat) : Int) < ((1 : Nat) : Int)) = True := eq_true (by decide)
      have b1 := ga.lo
      have b2 := ga.le
      have b3 := ga.hi
      have b5 := ga.rent
      have b6 := ga.most
      have f1 := fromF_range (u := u) (lo := 0) (hi := a.lo) (by omega)
      have c2 := castF_range (u := fromU u 0 a.lo) (n := a.hi - a.lo + 1) (by omega)
      have w1 : -9223372036854775808 ≤ a.hi - a.lo ∧ a.hi - a.lo < 9223372036854775808 := by omega
      have w2 : -9223372036854775808 ≤ a.hi - a.lo + 1 ∧ a.hi - a.lo + 1 < 9223372036854775808 := by omega
      ((repeat refine W_seq ?_); refine W_region0 T_ok ?_)
      simp (maxSteps := 1000000) only [VL, VM, ↓Gd_none, ↓Gd_t, ↓Gd_f, reduceIte, reduceCtorEq, Int.reduceLE, Int.reduceLT, Int.reduceToNat, Int.reduceNeg, Nat.reduceLT, Nat.reduceEqDiff, Nat.reduceAdd, Nat.reduceSub, Nat.reduceMul, Nat.reduceLeDiff, k2, DH_app hd, DH_len, DH_len0, DH_get hd, DH_get0 hd, DH_set hd, DH_set0 hd, DH_setd, DH_die hd]
      ((repeat refine W_seq ?_); refine W_cond (b := true) (by first | rfl | simp only [ev, get_cons, Nat.reduceEqDiff, if_true, if_false, reduceIte]) (fun _ => ?_) (fun h => by cases h))
      ((repeat refine W_seq ?_); refine W_skip ?_)
      simp (maxSteps := 1000000) only [VL, VM, ↓Gd_none, ↓Gd_t, ↓Gd_f, reduceIte, reduceCtorEq, Int.reduceLE, Int.reduceLT, Int.reduceToNat, Int.reduceNeg, Nat.reduceLT, Nat.reduceEqDiff, Nat.reduceAdd, Nat.reduceSub, Nat.reduceMul, Nat.reduceLeDiff]
      ((repeat refine W_seq ?_); refine W_block ?_)
      ((repeat refine W_seq ?_); refine W_region0 T_ok ?_)
      simp (maxSteps := 1000000) only [VL, VM, ↓Gd_none, ↓Gd_t, ↓Gd_f, reduceIte, reduceCtorEq, Int.reduceLE, Int.reduceLT, Int.reduceToNat, Int.reduceNeg, Nat.reduceLT, Nat.reduceEqDiff, Nat.reduceAdd, Nat.reduceSub, Nat.reduceMul, Nat.reduceLeDiff, DH_app hd, DH_len, DH_len0, DH_get hd, DH_get0 hd, DH_set hd, DH_set0 hd, DH_setd, DH_die hd]
      (repeat refine W_seq ?_)
      refine W_drawP T_ok [] (by kernel_rfl) (by kernel_rfl) ?_
      generalize hi : mkPlan _ = infs
      cbv at hi
      subst hi
      simp (maxSteps := 1000000) only [VL, VM, ↓Gd_none, ↓Gd_t, ↓Gd_f, reduceIte, reduceCtorEq, Int.reduceLE, Int.reduceLT, Int.reduceToNat, Int.reduceNeg, Nat.reduceLT, Nat.reduceEqDiff, Nat.reduceAdd, Nat.reduceSub, Nat.reduceMul, Nat.reduceLeDiff, DH_app hd, DH_len, DH_len0, DH_get hd, DH_get0 hd, DH_set hd, DH_set0 hd, DH_setd, DH_die hd, w1, w2]
      apply call_d (f := 46) (fn := Try.f46) (by kernel_rfl) (by rfl)
      · exact from_c hd u 0 a.lo _ (by omega) (by omega) (by omega) (by omega)
      simp (maxSteps := 1000000) only [VL, VM, ↓Gd_none, ↓Gd_t, ↓Gd_f, reduceIte, reduceCtorEq, Int.reduceLE, Int.reduceLT, Int.reduceToNat, Int.reduceNeg, Nat.reduceLT, Nat.reduceEqDiff, Nat.reduceAdd, Nat.reduceSub, Nat.reduceMul, Nat.reduceLeDiff, DH_app hd, DH_len, DH_len0, DH_get hd, DH_get0 hd, DH_set hd, DH_set0 hd, DH_setd, DH_die hd, w1, w2]
      apply call_d (f := 45) (fn := Try.f45) (by kernel_rfl) (by rfl)
      · exact cast_c hd (fromU u 0 a.lo) (a.hi - a.lo + 1) _ (by omega)
      generalize fromF u 0 a.lo = lo2 at *
      generalize castF (fromU u 0 a.lo) (a.hi - a.lo + 1) = q2 at *
      generalize castU (fromU u 0 a.lo) (a.hi - a.lo + 1) = v1 at *
      have w3 : -9223372036854775808 ≤ a.lo + q2 ∧ a.lo + q2 < 9223372036854775808 := by omega
      simp (maxSteps := 1000000) only [VL, VM, ↓Gd_none, ↓Gd_t, ↓Gd_f, reduceIte, reduceCtorEq, Int.reduceLE, Int.reduceLT, Int.reduceToNat, Int.reduceNeg, Nat.reduceLT, Nat.reduceEqDiff, Nat.reduceAdd, Nat.reduceSub, Nat.reduceMul, Nat.reduceLeDiff, DH_app hd, DH_len, DH_len0, DH_get hd, DH_get0 hd, DH_set hd, DH_set0 hd, DH_setd, DH_die hd, w1, w2, w3]
      apply call_d (f := 30) (fn := Try.f30) (by kernel_rfl) (by rfl)
      · exact spanc_v _ _ _
      simp (maxSteps := 1000000) only [VL, VM, ↓Gd_none, ↓Gd_t, ↓Gd_f, reduceIte, reduceCtorEq, Int.reduceLE, Int.reduceLT, Int.reduceToNat, Int.reduceNeg, Nat.reduceLT, Nat.reduceEqDiff, Nat.reduceAdd, Nat.reduceSub, Nat.reduceMul, Nat.reduceLeDiff, DH_app hd, DH_len, DH_len0, DH_get hd, DH_get0 hd, DH_set hd, DH_set0 hd, DH_setd, DH_die hd]
      have c3 := castF_range (u := v1) (n := 9) (by omega)
      have c4 := castF_range (u := castU v1 9) (n := 2) (by omega)
      (repeat refine W_seq ?_)
      refine W_drawP T_ok [] (by kernel_rfl) (by kernel_rfl) ?_
      generalize hi : mkPlan _ = infs
      cbv at hi
      subst hi
      simp (maxSteps := 1000000) only [VL, VM, ↓Gd_none, ↓Gd_t, ↓Gd_f, reduceIte, reduceCtorEq, Int.reduceLE, Int.reduceLT, Int.reduceToNat, Int.reduceNeg, Nat.reduceLT, Nat.reduceEqDiff, Nat.reduceAdd, Nat.reduceSub, Nat.reduceMul, Nat.reduceLeDiff, DH_app hd, DH_len, DH_len0, DH_get hd, DH_get0 hd, DH_set hd, DH_set0 hd, DH_setd, DH_die hd]
      apply call_d (f := 45) (fn := Try.f45) (by kernel_rfl) (by rfl)
      · exact cast_c hd v1 9 _ (by omega)
      generalize castF v1 9 = q3 at *
      generalize castU v1 9 = v2 at *
      have w4 : -9223372036854775808 ≤ a.rent + q3 ∧ a.rent + q3 < 9223372036854775808 := by omega
      simp (maxSteps := 1000000) only [VL, VM, ↓Gd_none, ↓Gd_t, ↓Gd_f, reduceIte, reduceCtorEq, Int.reduceLE, Int.reduceLT, Int.reduceToNat, Int.reduceNeg, Nat.reduceLT, Nat.reduceEqDiff, Nat.reduceAdd, Nat.reduceSub, Nat.reduceMul, Nat.reduceLeDiff, DH_app hd, DH_len, DH_len0, DH_get hd, DH_get0 hd, DH_set hd, DH_set0 hd, DH_setd, DH_die hd, w4]
      apply call_d (f := 45) (fn := Try.f45) (by kernel_rfl) (by rfl)
      · exact cast_c hd v2 2 _ (by omega)
      generalize castF v2 2 = q4 at *
      generalize castU v2 2 = v3 at *
      have w5 : -9223372036854775808 ≤ a.most + q4 ∧ a.most + q4 < 9223372036854775808 := by omega
      simp (maxSteps := 1000000) only [VL, VM, ↓Gd_none, ↓Gd_t, ↓Gd_f, reduceIte, reduceCtorEq, Int.reduceLE, Int.reduceLT, Int.reduceToNat, Int.reduceNeg, Nat.reduceLT, Nat.reduceEqDiff, Nat.reduceAdd, Nat.reduceSub, Nat.reduceMul, Nat.reduceLeDiff, DH_app hd, DH_len, DH_len0, DH_get hd, DH_get0 hd, DH_set hd, DH_set0 hd, DH_setd, DH_die hd, w4, w5]
      ((repeat refine W_seq ?_); refine W_region0 T_ok ?_)
      simp (maxSteps := 1000000) only [VL, VM, ↓Gd_none, ↓Gd_t, ↓Gd_f, reduceIte, reduceCtorEq, Int.reduceLE, Int.reduceLT, Int.reduceToNat, Int.reduceNeg, Nat.reduceLT, Nat.reduceEqDiff, Nat.reduceAdd, Nat.reduceSub, Nat.reduceMul, Nat.reduceLeDiff]
      ((repeat refine W_seq ?_); refine W_block ?_; (repeat refine W_seq ?_)); refine W_loopS (fun s : Nat × Int × List Int => [(3, .ptr d 0), (4, .ptr H0.length 0), (5, .ptr (H0.length + 9) 0), (7, vi ((0 : Nat) : Int)), (8, .ptr (H0.length + 6) 0), (9, vi (s.1 : Int))]) (fun s => ⟨DH H0 d s.2.1 [.obj (hallC h), .dead, .dead, .obj (cellsC h.water), .obj (cellsC h.shut), .obj (List.map vi bs), .obj [vi lo2, vi (a.lo + q2), vb a.water, .bf (H0.length + 8) 0 1 1, vi (a.rent + q3), vi (a.most + q4)], .dead, .obj (List.map vi s.2.2), .obj [vi h.wide, vi h.deep, .bf (H0.length + 3) 0 h.water.length 2, .bf (H0.length + 4) 0 h.shut.length 2, vi h.bay.x, vi h.bay.y, .bf (H0.length + 5) 0 h.bears.length 1, .bf (H0.length + 6) 0 1 6]], lg⟩) (fun s => 1 - s.1) (fun s => s.1 ≤ 1 ∧ AS 1 a.away s.2.2) (0, v3, a.away) ⟨Nat.zero_le _, AS.refl ga.len ga.aw⟩ ⟨rfl, rfl, rfl, rfl, rfl, rfl, trivial⟩ rfl ?_
      rintro ⟨l, v, aw⟩ ⟨hl, hA⟩
      simp only at hl hA
      have hAl := hA.len
      have k1 : -9223372036854775808 ≤ (l : Int) + 1 ∧ (l : Int) + 1 < 9223372036854775808 := by omega
      ((repeat refine W_seq ?_); refine W_region0 T_ok ?_)
      rcases Nat.lt_or_ge l 1 with hlt | hge
      · have k3 : ((l : Int) < ((1 : Nat) : Int)) = True := eq_true (by omega)
        have hx : aw[l]? = some (aw.getD l 0) := by
          rw [List.getD_eq_getElem?_getD, List.getElem?_eq_getElem (show l < aw.length by omega)]; rfl
        have hxb := hA.aw _ (List.mem_of_getElem? hx)
        have hup := fun q (h0 : 0 ≤ q ∧ q ≤ aw.getD l 0) => hA.up (i := l) (q := q) (by omega) h0
        generalize aw.getD l 0 = x at hx hxb hup
        have hx1 : (List.map vi aw)[l]? = some (vi x) := by rw [List.getElem?_map, hx]; rfl
        have hx3 : (l + 1 ≤ aw.length) = True := eq_true (by omega)
        have f2 := fromF_range (u := v) (lo := 0) (hi := x) (by omega)
        simp (maxSteps := 1000000) only [VL, VM, ↓Gd_none, ↓Gd_t, ↓Gd_f, reduceIte, reduceCtorEq, Int.reduceLE, Int.reduceLT, Int.reduceToNat, Int.reduceNeg, Nat.reduceLT, Nat.reduceEqDiff, Nat.reduceAdd, Nat.reduceSub, Nat.reduceMul, Nat.reduceLeDiff, k3, DH_app hd, DH_len, DH_len0, DH_get hd, DH_get0 hd, DH_set hd, DH_set0 hd, DH_setd, DH_die hd]
        ((repeat refine W_seq ?_); refine W_cond (b := true) (by first | rfl | simp only [ev, get_cons, Nat.reduceEqDiff, if_true, if_false, reduceIte]) (fun _ => ?_) (fun h => by cases h))
        ((repeat refine W_seq ?_); refine W_skip ?_)
        simp (maxSteps := 1000000) only [VL, VM, ↓Gd_none, ↓Gd_t, ↓Gd_f, reduceIte, reduceCtorEq, Int.reduceLE, Int.reduceLT, Int.reduceToNat, Int.reduceNeg, Nat.reduceLT, Nat.reduceEqDiff, Nat.reduceAdd, Nat.reduceSub, Nat.reduceMul, Nat.reduceLeDiff]
        ((repeat refine W_seq ?_); refine W_block ?_)
        (repeat refine W_seq ?_)
        refine W_drawP T_ok [] (by kernel_rfl) (by kernel_rfl) ?_
        generalize hi : mkPlan _ = infs
        cbv at hi
        subst hi
        simp (maxSteps := 1000000) only [VL, VM, ↓Gd_none, ↓Gd_t, ↓Gd_f, reduceIte, reduceCtorEq, Int.reduceLE, Int.reduceLT, Int.reduceToNat, Int.reduceNeg, Nat.reduceLT, Nat.reduceEqDiff, Nat.reduceAdd, Nat.reduceSub, Nat.reduceMul, Nat.reduceLeDiff, DH_app hd, DH_len, DH_len0, DH_get hd, DH_get0 hd, DH_set hd, DH_set0 hd, DH_setd, DH_die hd, eq_true hlt, hx1]
        apply call_d (f := 46) (fn := Try.f46) (by kernel_rfl) (by rfl)
        · exact from_c hd v 0 x _ (by omega) (by omega) (by omega) (by omega)
        generalize fromF v 0 x = y at *
        generalize fromU v 0 x = v4 at *
        have hx2 : List.map vi (List.take l aw) ++ vi y :: List.map vi (List.drop (l + 1) aw) = List.map vi (aw.set l y) := by
          rw [List.set_eq_take_append_cons_drop, if_pos (by omega)]
          simp
        simp (maxSteps := 1000000) only [VL, VM, ↓Gd_none, ↓Gd_t, ↓Gd_f, reduceIte, reduceCtorEq, Int.reduceLE, Int.reduceLT, Int.reduceToNat, Int.reduceNeg, Nat.reduceLT, Nat.reduceEqDiff, Nat.reduceAdd, Nat.reduceSub, Nat.reduceMul, Nat.reduceLeDiff, DH_app hd, DH_len, DH_len0, DH_get hd, DH_get0 hd, DH_set hd, DH_set0 hd, DH_setd, DH_die hd, eq_true hlt, hx1, hx2, hx3]
        ((repeat refine W_seq ?_); refine W_region0 T_ok ?_)
        simp (maxSteps := 1000000) only [VL, VM, ↓Gd_none, ↓Gd_t, ↓Gd_f, reduceIte, reduceCtorEq, Int.reduceLE, Int.reduceLT, Int.reduceToNat, Int.reduceNeg, Nat.reduceLT, Nat.reduceEqDiff, Nat.reduceAdd, Nat.reduceSub, Nat.reduceMul, Nat.reduceLeDiff, k1]
        exact LoopK.mk (l + 1, v4, aw.set l y) (by simp only; omega) ⟨by simp only; omega, hup y (by omega)⟩ ⟨rfl, rfl, rfl, rfl, rfl, rfl, trivial⟩ rfl
      have k3 : ((l : Int) < ((1 : Nat) : Int)) = False := eq_false (by omega)
      simp (maxSteps := 1000000) only [VL, VM, ↓Gd_none, ↓Gd_t, ↓Gd_f, reduceIte, reduceCtorEq, Int.reduceLE, Int.reduceLT, Int.reduceToNat, Int.reduceNeg, Nat.reduceLT, Nat.reduceEqDiff, Nat.reduceAdd, Nat.reduceSub, Nat.reduceMul, Nat.reduceLeDiff, k3, DH_app hd, DH_len, DH_len0, DH_get hd, DH_get0 hd, DH_set hd, DH_set0 hd, DH_setd, DH_die hd]
      ((repeat refine W_seq ?_); refine W_cond (b := false) (by first | rfl | simp only [ev, get_cons, Nat.reduceEqDiff, if_true, if_false, reduceIte]) (fun h => by cases h) (fun _ => ?_))
      ((repeat refine W_seq ?_); refine W_exit ?_)
      simp (maxSteps := 1000000) only [VL, VM, ↓Gd_none, ↓Gd_t, ↓Gd_f, reduceIte, reduceCtorEq, Int.reduceLE, Int.reduceLT, Int.reduceToNat, Int.reduceNeg, Nat.reduceLT, Nat.reduceEqDiff, Nat.reduceAdd, Nat.reduceSub, Nat.reduceMul, Nat.reduceLeDiff]
      have k9 : -9223372036854775808 ≤ ((0 : Nat) : Int) + 1 ∧ ((0 : Nat) : Int) + 1 < 9223372036854775808 := by omega
      ((repeat refine W_seq ?_); refine W_region0 T_ok ?_)
      simp (maxSteps := 1000000) only [VL, VM, ↓Gd_none, ↓Gd_t, ↓Gd_f, reduceIte, reduceCtorEq, Int.reduceLE, Int.reduceLT, Int.reduceToNat, Int.reduceNeg, Nat.reduceLT, Nat.reduceEqDiff, Nat.reduceAdd, Nat.reduceSub, Nat.reduceMul, Nat.reduceLeDiff, k9]
      refine LoopK.mk (1, v, (⟨lo2, a.lo + q2, a.water, aw, a.rent + q3, a.most + q4⟩ : Ki)) (by simp only; omega) ⟨by simp only; omega, KS.upd ga hA (by omega) (by omega) (by omega) (by omega), fun hh => absurd hh (by simp only; omega)⟩ ⟨rfl, rfl, rfl, ?_, trivial⟩ rfl
      simp only [get_cons, if_true]
      rfl
    have k2 : (((1 : Nat) : Int) < ((1 : Nat) : Int)) = False := eq_false (by decide)
    ((repeat refine W_seq ?_); refine W_region0 T_ok ?_)
    simp (maxSteps := 1000000) only [VL, VM, ↓Gd_none, ↓Gd_t, ↓Gd_f, reduceIte, reduceCtorEq, Int.reduceLE, Int.reduceLT, Int.reduceToNat, Int.reduceNeg, Nat.reduceLT, Nat.reduceEqDiff, Nat.reduceAdd, Nat.reduceSub, Nat.reduceMul, Nat.reduceLeDiff, k2, DH_app hd, DH_len, DH_len0, DH_get hd, DH_get0 hd, DH_set hd, DH_set0 hd, DH_setd, DH_die hd]
    ((repeat refine W_seq ?_); refine W_cond (b := false) (by first | rfl | simp only [ev, get_cons, Nat.reduceEqDiff, if_true, if_false, reduceIte]) (fun h => by cases h) (fun _ => ?_))
    refine W_frz1 (id := H0.length + 8) (n := 1) (k := 1) (o := H0.length + 6) (j := 3) (xs := p.away.map intP) (by rw [DH_get hd, flat_ints]; rfl) (by rw [DH_get hd]; rfl) rfl (by simp) (by rw [List.length_map]; exact sp.len) (by omega) ?_
    simp only [DH_set hd, List.set_cons_zero, List.set_cons_succ]
    refine W_frz1 (id := H0.length + 6) (n := 1) (k := 6) (o := H0.length + 9) (j := 7) (xs := [p].map kiP) (by rw [DH_get hd]; rfl) (by rw [DH_get hd]; rfl) rfl (by simp) rfl (by omega) ?_
    simp only [DH_set hd, List.set_cons_zero, List.set_cons_succ]
    refine W_frz1 (id := H0.length + 5) (n := h.bears.length) (k := 1) (o := H0.length + 9) (j := 6) (xs := bs.map intP) (by rw [DH_get hd, flat_ints]; rfl) (by rw [DH_get hd]; rfl) rfl (by simp) (by rw [List.length_map]; exact hbl) (by omega) ?_
    simp only [DH_set hd, List.set_cons_zero, List.set_cons_succ]
    refine W_frz1 (id := H0.length + 4) (n := h.shut.length) (k := 2) (o := H0.length + 9) (j := 3) (xs := h.shut.map plP) (by rw [DH_get hd]; rfl) (by rw [DH_get hd]; rfl) rfl (by simp) (by rw [List.length_map]) (by omega) ?_
    simp only [DH_set hd, List.set_cons_zero, List.set_cons_succ]
    refine W_frz1 (id := H0.length + 3) (n := h.water.length) (k := 2) (o := H0.length + 9) (j := 2) (xs := h.water.map plP) (by rw [DH_get hd]; rfl) (by rw [DH_get hd]; rfl) rfl (by simp) (by rw [List.length_map]) (by omega) ?_
    simp only [DH_set hd, List.set_cons_zero, List.set_cons_succ]
    obtain ⟨x, hx⟩ : ∃ x : Ha, x = ⟨h.wide, h.deep, h.water, h.shut, h.bay, bs, [p]⟩ := ⟨_, rfl⟩
    have hxc : [vi h.wide, vi h.deep, VV.p (PV.sl 2 (List.map plP h.water)), VV.p (PV.sl 2 (List.map plP h.shut)), vi h.bay.x, vi h.bay.y, VV.p (PV.sl 1 (List.map intP bs)), VV.p (PV.sl 6 (List.map kiP [p]))] = hallC x := by rw [hx]
    rw [hxc]
    have hbsin : ∀ n ∈ bs, 0 ≤ n ∧ n ≤ 10000000 := fun n hn => by
      obtain ⟨i, hi, rfl⟩ := List.getElem_of_mem hn
      have h1 := hbs.ge i
      rw [List.getD_eq_getElem?_getD (l := bs), List.getElem?_eq_getElem hi, List.getD_eq_getElem?_getD, List.getElem?_eq_getElem (show i < h.bears.length by omega)] at h1
      simp only [Option.getD_some] at h1
      have := hG.bs _ (List.getElem_mem (show i < h.bears.length by omega))
      omega
    have Vx : VH x := by
      rw [hx]
      refine ⟨V.w1, V.w2, V.d1, V.d2, V.x1, V.x2, V.y1, V.y2, V.water, V.shut, ?_, hbsin, by simp, by simp, fun k hk => ?_⟩
      · have := V.bears
        rw [← hbl] at this
        exact this
      · simp only [List.mem_cons, List.not_mem_nil, or_false] at hk
        rcases hk with rfl
        · exact ⟨sp.lo, sp.le, by have := sp.hi; omega, sp.len, fun n hn => by have := sp.aw n hn; omega, sp.rent.1, by have := sp.rent; omega, sp.most.1, by have := sp.most; omega⟩
    have hS : HStr h x := by
      rw [hx]
      refine ⟨rfl, rfl, rfl, rfl, rfl, hbl, fun i => (hbs.ge i).1, r3.symm, fun i k k' h1 h2 => ?_⟩
      rw [hk] at h1
      simp only at h2
      rcases i with _ | i
      · simp only [List.getElem?_cons_zero, List.getElem?_cons_succ, Option.some.injEq] at h1 h2
        subst h1 h2
        exact sp.str
      · simp at h1
    have Fx : Fin x := by
      rw [hx]
      refine ⟨F.water, F.shut, by show bs.length ≤ _; omega, by simp, fun k hk => ?_⟩
      simp only [List.mem_cons, List.not_mem_nil, or_false] at hk
      rcases hk with rfl
      · have := sp.len
        omega
    have hxw : x.wide = h.wide := by rw [hx]
    have hxd : x.deep = h.deep := by rw [hx]
    clear hxc
    have hvx := hall_zero2 Vx
    have hopn : ∀ k : Ha, k.wide = h.wide → k.deep = h.deep → (openL k).length ≤ 6 := by
      intro k e1 e2
      have h1 : (openL k).length ≤ (placesL k).length := List.length_filter_le _ _
      have h2 : (placesL k).length = dp * wd := by
        unfold placesL
        rw [rowsOf_len, e1, e2, hwd, hdp]; rfl
      have h3 : dp * wd ≤ 2 * 3 := Nat.mul_le_mul (by omega) (by omega)
      omega
    have hbe : bestErr h = 0 := by unfold bestErr; rw [if_neg (by simp [hv]), if_neg (by have := hopn h rfl rfl; omega)]
    have hbx : bestErr x = 0 := by unfold bestErr; rw [if_neg (by simp [hvx]), if_neg (by have := hopn x hxw hxd; omega)]
    have hle := stronger_best V Vx hS
    obtain ⟨_, bA, _⟩ := best_spec V
    obtain ⟨_, bX, _⟩ := best_spec Vx
    clear hx
    ((repeat refine W_seq ?_); refine W_exit ?_)
    simp (maxSteps := 1000000) only [VL, VM, ↓Gd_none, ↓Gd_t, ↓Gd_f, reduceIte, reduceCtorEq, Int.reduceLE, Int.reduceLT, Int.reduceToNat, Int.reduceNeg, Nat.reduceLT, Nat.reduceEqDiff, Nat.reduceAdd, Nat.reduceSub, Nat.reduceMul, Nat.reduceLeDiff]
    ((repeat refine W_seq ?_); refine W_region0 T_ok ?_)
    simp (maxSteps := 1000000) only [VL, VM, ↓Gd_none, ↓Gd_t, ↓Gd_f, reduceIte, reduceCtorEq, Int.reduceLE, Int.reduceLT, Int.reduceToNat, Int.reduceNeg, Nat.reduceLT, Nat.reduceEqDiff, Nat.reduceAdd, Nat.reduceSub, Nat.reduceMul, Nat.reduceLeDiff, DH_app hd, DH_len, DH_len0, DH_get hd, DH_get0 hd, DH_set hd, DH_set0 hd, DH_setd, DH_die hd]
    apply call_eq (f := 19) (fn := Try.f19) (by kernel_rfl) (by rfl)
    · exact best_vm h _ F
    rw [show bestR h = pusV (bestL h) from if_pos hbe, hbe]
    simp (maxSteps := 1000000) only [VL, VM, ↓Gd_none, ↓Gd_t, ↓Gd_f, reduceIte, reduceCtorEq, Int.reduceLE, Int.reduceLT, Int.reduceToNat, Int.reduceNeg, Nat.reduceLT, Nat.reduceEqDiff, Nat.reduceAdd, Nat.reduceSub, Nat.reduceMul, Nat.reduceLeDiff, DH_app hd, DH_len, DH_len0, DH_get hd, DH_get0 hd, DH_set hd, DH_set0 hd, DH_setd, DH_die hd]
    ((repeat refine W_seq ?_); refine W_region0 T_ok ?_)
    simp (maxSteps := 1000000) only [VL, VM, ↓Gd_none, ↓Gd_t, ↓Gd_f, reduceIte, reduceCtorEq, Int.reduceLE, Int.reduceLT, Int.reduceToNat, Int.reduceNeg, Nat.reduceLT, Nat.reduceEqDiff, Nat.reduceAdd, Nat.reduceSub, Nat.reduceMul, Nat.reduceLeDiff, DH_app hd, DH_len, DH_len0, DH_get hd, DH_get0 hd, DH_set hd, DH_set0 hd, DH_setd, DH_die hd]
    apply call_eq (f := 19) (fn := Try.f19) (by kernel_rfl) (by rfl)
    · exact best_vm x _ Fx
    rw [show bestR x = pusV (bestL x) from if_pos hbx, hbx]
    simp (maxSteps := 1000000) only [VL, VM, ↓Gd_none, ↓Gd_t, ↓Gd_f, reduceIte, reduceCtorEq, Int.reduceLE, Int.reduceLT, Int.reduceToNat, Int.reduceNeg, Nat.reduceLT, Nat.reduceEqDiff, Nat.reduceAdd, Nat.reduceSub, Nat.reduceMul, Nat.reduceLeDiff, DH_app hd, DH_len, DH_len0, DH_get hd, DH_get0 hd, DH_set hd, DH_set0 hd, DH_setd, DH_die hd]
    ((repeat refine W_seq ?_); refine W_region0 T_ok ?_)
    simp (maxSteps := 1000000) only [VL, VM, ↓Gd_none, ↓Gd_t, ↓Gd_f, reduceIte, reduceCtorEq, Int.reduceLE, Int.reduceLT, Int.reduceToNat, Int.reduceNeg, Nat.reduceLT, Nat.reduceEqDiff, Nat.reduceAdd, Nat.reduceSub, Nat.reduceMul, Nat.reduceLeDiff, DH_app hd, DH_len, DH_len0, DH_get hd, DH_get0 hd, DH_set hd, DH_set0 hd, DH_setd, DH_die hd]
    apply call_eq (f := 34) (fn := Try.f34) (by kernel_rfl) (by rfl)
    · exact Earns_vm h (bestL h) _ F (by have := inA_len bA; omega)
    rw [show earnsR h (bestL h) = rentOf h (bestL h) from if_pos (inA_lay bA hv), inA_lay bA hv]
    simp (maxSteps := 1000000) only [VL, VM, ↓Gd_none, ↓Gd_t, ↓Gd_f, reduceIte, reduceCtorEq, Int.reduceLE, Int.reduceLT, Int.reduceToNat, Int.reduceNeg, Nat.reduceLT, Nat.reduceEqDiff, Nat.reduceAdd, Nat.reduceSub, Nat.reduceMul, Nat.reduceLeDiff, DH_app hd, DH_len, DH_len0, DH_get hd, DH_get0 hd, DH_set hd, DH_set0 hd, DH_setd, DH_die hd]
    ((repeat refine W_seq ?_); refine W_region0 T_ok ?_)
    simp (maxSteps := 1000000) only [VL, VM, ↓Gd_none, ↓Gd_t, ↓Gd_f, reduceIte, reduceCtorEq, Int.reduceLE, Int.reduceLT, Int.reduceToNat, Int.reduceNeg, Nat.reduceLT, Nat.reduceEqDiff, Nat.reduceAdd, Nat.reduceSub, Nat.reduceMul, Nat.reduceLeDiff, DH_app hd, DH_len, DH_len0, DH_get hd, DH_get0 hd, DH_set hd, DH_set0 hd, DH_setd, DH_die hd]
    apply call_eq (f := 34) (fn := Try.f34) (by kernel_rfl) (by rfl)
    · exact Earns_vm x (bestL x) _ Fx (by have := inA_len bX; omega)
    rw [show earnsR x (bestL x) = rentOf x (bestL x) from if_pos (inA_lay bX hvx), inA_lay bX hvx]
    simp (maxSteps := 1000000) only [VL, VM, ↓Gd_none, ↓Gd_t, ↓Gd_f, reduceIte, reduceCtorEq, Int.reduceLE, Int.reduceLT, Int.reduceToNat, Int.reduceNeg, Nat.reduceLT, Nat.reduceEqDiff, Nat.reduceAdd, Nat.reduceSub, Nat.reduceMul, Nat.reduceLeDiff, DH_app hd, DH_len, DH_len0, DH_get hd, DH_get0 hd, DH_set hd, DH_set0 hd, DH_setd, DH_die hd]
    ((repeat refine W_seq ?_); refine W_region0 T_ok ?_)
    simp (maxSteps := 1000000) only [VL, VM, ↓Gd_none, ↓Gd_t, ↓Gd_f, reduceIte, reduceCtorEq, Int.reduceLE, Int.reduceLT, Int.reduceToNat, Int.reduceNeg, Nat.reduceLT, Nat.reduceEqDiff, Nat.reduceAdd, Nat.reduceSub, Nat.reduceMul, Nat.reduceLeDiff, DH_app hd, DH_len, DH_len0, DH_get hd, DH_get0 hd, DH_set hd, DH_set0 hd, DH_setd, DH_die hd, eq_true hle, eq_self, decide_true, Bool.not_true]
    apply call_eq (f := 15) (fn := Try.f15) (by kernel_rfl) (by rfl)
    · exact awake _
    simp (maxSteps := 1000000) only [VL, VM, ↓Gd_none, ↓Gd_t, ↓Gd_f, reduceIte, reduceCtorEq, Int.reduceLE, Int.reduceLT, Int.reduceToNat, Int.reduceNeg, Nat.reduceLT, Nat.reduceEqDiff, Nat.reduceAdd, Nat.reduceSub, Nat.reduceMul, Nat.reduceLeDiff, DH_app hd, DH_len, DH_len0, DH_get hd, DH_get0 hd, DH_set hd, DH_set0 hd, DH_setd, DH_die hd]
    rw [tail]
    obtain ⟨Z, rfl, hZ⟩ := hXY
    (repeat refine W_seq ?_)
    refine W_ret ?_
    try simp only [thenQ, blockQ]
    exact ⟨.inr rfl, rfl, ⟨Z, rfl, hZ⟩, M.H, _, rfl, rfl, [vb true], rfl, vb true, rfl, by simp [refs], rfl, rfl⟩
  · have ga : KGood 2 a := by
      have := hG.ks a (by rw [hk]; simp)
      rwa [hk] at this
    have gb : KGood 2 b := by
      have := hG.ks b (by rw [hk]; simp)
      rwa [hk] at this
    have r1 : (rowsW (H0.length + 7) h.kinds).flatten = [vi a.lo, vi a.hi, vb a.water, .bf (H0.length + 8) 0 a.away.length 1, vi a.rent, vi a.most, vi b.lo, vi b.hi, vb b.water, .bf (H0.length + 10) 0 b.away.length 1, vi b.rent, vi b.most] := by
      rw [hk]
      rfl
    have r2 : objsT h.kinds = [.dead, .obj (List.map vi a.away), .dead, .obj (List.map vi b.away)] := by
      rw [hk]
      rfl
    have r3 : h.kinds.length = 2 := by
      rw [hk]
      rfl
    rw [r1, r2, r3, ga.len, gb.len]
    simp (maxSteps := 1000000) only [VL, VM, ↓Gd_none, ↓Gd_t, ↓Gd_f, reduceIte, reduceCtorEq, Int.reduceLE, Int.reduceLT, Int.reduceToNat, Int.reduceNeg, Nat.reduceLT, Nat.reduceEqDiff, Nat.reduceAdd, Nat.reduceSub, Nat.reduceMul, Nat.reduceLeDiff, DH_app hd, DH_len, DH_len0, DH_get hd, DH_get0 hd, DH_set hd, DH_set0 hd, DH_setd, DH_die hd]
    obtain ⟨Y, y1, y2⟩ := addLg_Y (H0.length + 11) [H0.length + 3, H0.length + 4, H0.length + 5, H0.length + 6] (M.lg ++ X)
    rw [y1]
    have hXY : ∃ Z, M.lg ++ X ++ Y = M.lg ++ Z ∧ ∀ e ∈ Z, M.H.length ≤ e.1 := ⟨X ++ Y, List.append_assoc _ _ _, fun e he => by
      rcases List.mem_append.1 he with he | he
      · have := hX e he
        omega
      · have := (y2 e he).1
        omega⟩
    generalize M.lg ++ X ++ Y = lg at hXY ⊢
    clear y1 y2 hX
    ((repeat refine W_seq ?_); refine W_region0 T_ok ?_)
    simp (maxSteps := 1000000) only [VL, VM, ↓Gd_none, ↓Gd_t, ↓Gd_f, reduceIte, reduceCtorEq, Int.reduceLE, Int.reduceLT, Int.reduceToNat, Int.reduceNeg, Nat.reduceLT, Nat.reduceEqDiff, Nat.reduceAdd, Nat.reduceSub, Nat.reduceMul, Nat.reduceLeDiff]
    ((repeat refine W_seq ?_); refine W_block ?_; (repeat refine W_seq ?_)); refine W_loopS (fun s : Nat × Int × List Int => [(3, .ptr d 0), (4, .ptr H0.length 0), (5, .ptr (H0.length + 11) 0), (6, vi s.1)]) (fun s => ⟨DH H0 d s.2.1 [.obj (hallC h), .dead, .dead, .obj (cellsC h.water), .obj (cellsC h.shut), .obj (List.map vi s.2.2), .obj [vi a.lo, vi a.hi, vb a.water, .bf (H0.length + 8) 0 2 1, vi a.rent, vi a.most, vi b.lo, vi b.hi, vb b.water, .bf (H0.length + 10) 0 2 1, vi b.rent, vi b.most], .dead, .obj (List.map vi a.away), .dead, .obj (List.map vi b.away), .obj [vi h.wide, vi h.deep, .bf (H0.length + 3) 0 h.water.length 2, .bf (H0.length + 4) 0 h.shut.length 2, vi h.bay.x, vi h.bay.y, .bf (H0.length + 5) 0 h.bears.length 1, .bf (H0.length + 6) 0 2 6]], lg⟩) (fun s => h.bears.length - s.1) (fun s => s.1 ≤ h.bears.length ∧ BS h.bears s.2.2 ∧ ∀ j, s.1 ≤ j → s.2.2.getD j 0 = h.bears.getD j 0) (0, u1, h.bears) ⟨Nat.zero_le _, BS.refl _, fun _ _ => rfl⟩ ⟨rfl, rfl, rfl, rfl, trivial⟩ rfl ?_
    rintro ⟨i, u, bs⟩ ⟨hi, hbs, hun⟩
    simp only at hi hbs hun
    have hbl := hbs.len
    have k1 : -9223372036854775808 ≤ (i : Int) + 1 ∧ (i : Int) + 1 < 9223372036854775808 := by omega
    ((repeat refine W_seq ?_); refine W_region0 T_ok ?_)
    rcases Nat.lt_or_ge i h.bears.length with hlt | hge
    · have k2 : ((i : Int) < (h.bears.length : Int)) = True := eq_true (by omega)
      have hx : bs[i]? = some (bs.getD i 0) := by
        rw [List.getD_eq_getElem?_getD, List.getElem?_eq_getElem (show i < bs.length by omega)]; rfl
      have hx0 := hun i (Nat.le_refl _)
      have hx9 : 0 ≤ h.bears.getD i 0 ∧ h.bears.getD i 0 ≤ 300 := by
        refine hG.bs _ ?_
        rw [List.getD_eq_getElem?_getD, List.getElem?_eq_getElem hlt]
        exact List.getElem_mem hlt
      have hup := fun q (h0 : 0 ≤ q ∧ q ≤ 60) => hbs.up (i := i) (q := q) hx0 (by omega) h0
      have hun2 : ∀ q j, i + 1 ≤ j → (bs.set i q).getD j 0 = h.bears.getD j 0 := fun q j hj => by
        rw [List.getD_eq_getElem?_getD, List.getElem?_set_ne (by omega), ← List.getD_eq_getElem?_getD]
        exact hun j (by omega)
      generalize bs.getD i 0 = x at hx hx0 hup
      rw [← hx0] at hx9
      have hx1 : (List.map vi bs)[i]? = some (vi x) := by rw [List.getElem?_map, hx]; rfl
      have hx3 : (i + 1 ≤ bs.length) = True := eq_true (by omega)
      have c1 := castF_range (u := u) (n := 60) (by omega)
      have ho := oneF_mem (u := castU u 60) (xs := [0, castF u 60]) (by simp) (by simp)
      simp (maxSteps := 1000000) only [VL, VM, ↓Gd_none, ↓Gd_t, ↓Gd_f, reduceIte, reduceCtorEq, Int.reduceLE, Int.reduceLT, Int.reduceToNat, Int.reduceNeg, Nat.reduceLT, Nat.reduceEqDiff, Nat.reduceAdd, Nat.reduceSub, Nat.reduceMul, Nat.reduceLeDiff, k2, DH_app hd, DH_len, DH_len0, DH_get hd, DH_get0 hd, DH_set hd, DH_set0 hd, DH_setd, DH_die hd]
      ((repeat refine W_seq ?_); refine W_cond (b := true) (by first | rfl | simp only [ev, get_cons, Nat.reduceEqDiff, if_true, if_false, reduceIte]) (fun _ => ?_) (fun h => by cases h))
      ((repeat refine W_seq ?_); refine W_skip ?_)
      simp (maxSteps := 1000000) only [VL, VM, ↓Gd_none, ↓Gd_t, ↓Gd_f, reduceIte, reduceCtorEq, Int.reduceLE, Int.reduceLT, Int.reduceToNat, Int.reduceNeg, Nat.reduceLT, Nat.reduceEqDiff, Nat.reduceAdd, Nat.reduceSub, Nat.reduceMul, Nat.reduceLeDiff]
      ((repeat refine W_seq ?_); refine W_block ?_)
      (repeat refine W_seq ?_)
      refine W_drawP T_ok [] (by kernel_rfl) (by kernel_rfl) ?_
      generalize hi : mkPlan _ = infs
      cbv at hi
      subst hi
      simp (maxSteps := 1000000) only [VL, VM, ↓Gd_none, ↓Gd_t, ↓Gd_f, reduceIte, reduceCtorEq, Int.reduceLE, Int.reduceLT, Int.reduceToNat, Int.reduceNeg, Nat.reduceLT, Nat.reduceEqDiff, Nat.reduceAdd, Nat.reduceSub, Nat.reduceMul, Nat.reduceLeDiff, DH_app hd, DH_len, DH_len0, DH_get hd, DH_get0 hd, DH_set hd, DH_set0 hd, DH_setd, DH_die hd, eq_true hlt, hx1]
      apply call_d (f := 45) (fn := Try.f45) (by kernel_rfl) (by rfl)
      · exact cast_c hd u 60 _ (by omega)
      simp (maxSteps := 1000000) only [VL, VM, ↓Gd_none, ↓Gd_t, ↓Gd_f, reduceIte, reduceCtorEq, Int.reduceLE, Int.reduceLT, Int.reduceToNat, Int.reduceNeg, Nat.reduceLT, Nat.reduceEqDiff, Nat.reduceAdd, Nat.reduceSub, Nat.reduceMul, Nat.reduceLeDiff, DH_app hd, DH_len, DH_len0, DH_get hd, DH_get0 hd, DH_set hd, DH_set0 hd, DH_setd, DH_die hd, eq_true hlt, hx1]
      apply call_d (f := 44) (fn := Try.f44) (by kernel_rfl) (by rfl)
      · exact one_c hd (castU u 60) [0, castF u 60] _ (by simp) (by simp)
      generalize castF u 60 = y1 at *
      generalize castU u 60 = v1 at *
      generalize hb9 : oneF v1 [0, y1] = b9 at *
      clear hb9
      generalize oneU v1 [0, y1] = v2
      have hb0 : 0 ≤ b9 ∧ b9 ≤ 60 := by
        simp only [List.mem_cons, List.not_mem_nil, or_false] at ho
        rcases ho with ho | ho <;> rw [ho] <;> omega
      have r1 : -9223372036854775808 ≤ x + b9 ∧ x + b9 < 9223372036854775808 := by omega
      have hx2 : List.map vi (List.take i bs) ++ vi (x + b9) :: List.map vi (List.drop (i + 1) bs) = List.map vi (bs.set i (x + b9)) := by
        rw [List.set_eq_take_append_cons_drop, if_pos (by omega)]
        simp
      simp (maxSteps := 1000000) only [VL, VM, ↓Gd_none, ↓Gd_t, ↓Gd_f, reduceIte, reduceCtorEq, Int.reduceLE, Int.reduceLT, Int.reduceToNat, Int.reduceNeg, Nat.reduceLT, Nat.reduceEqDiff, Nat.reduceAdd, Nat.reduceSub, Nat.reduceMul, Nat.reduceLeDiff, DH_app hd, DH_len, DH_len0, DH_get hd, DH_get0 hd, DH_set hd, DH_set0 hd, DH_setd, DH_die hd, eq_true hlt, hx1, r1, hx2, hx3]
      ((repeat refine W_seq ?_); refine W_region0 T_ok ?_)
      simp (maxSteps := 1000000) only [VL, VM, ↓Gd_none, ↓Gd_t, ↓Gd_f, reduceIte, reduceCtorEq, Int.reduceLE, Int.reduceLT, Int.reduceToNat, Int.reduceNeg, Nat.reduceLT, Nat.reduceEqDiff, Nat.reduceAdd, Nat.reduceSub, Nat.reduceMul, Nat.reduceLeDiff, k1]
      exact LoopK.mk (i + 1, v2, bs.set i (x + b9)) (by simp only; omega) ⟨by simp only; omega, hup b9 hb0, hun2 _⟩ ⟨rfl, rfl, rfl, rfl, trivial⟩ rfl
    have k2 : ((i : Int) < (h.bears.length : Int)) = False := eq_false (by omega)
    simp (maxSteps := 1000000) only [VL, VM, ↓Gd_none, ↓Gd_t, ↓Gd_f, reduceIte, reduceCtorEq, Int.reduceLE, Int.reduceLT, Int.reduceToNat, Int.reduceNeg, Nat.reduceLT, Nat.reduceEqDiff, Nat.reduceAdd, Nat.reduceSub, Nat.reduceMul, Nat.reduceLeDiff, k2, DH_app hd, DH_len, DH_len0, DH_get hd, DH_get0 hd, DH_set hd, DH_set0 hd, DH_setd, DH_die hd]
    ((repeat refine W_seq ?_); refine W_cond (b := false) (by first | rfl | simp only [ev, get_cons, Nat.reduceEqDiff, if_true, if_false, reduceIte]) (fun h => by cases h) (fun _ => ?_))
    ((repeat refine W_seq ?_); refine W_exit ?_)
    simp (maxSteps := 1000000) only [VL, VM, ↓Gd_none, ↓Gd_t, ↓Gd_f, reduceIte, reduceCtorEq, Int.reduceLE, Int.reduceLT, Int.reduceToNat, Int.reduceNeg, Nat.reduceLT, Nat.reduceEqDiff, Nat.reduceAdd, Nat.reduceSub, Nat.reduceMul, Nat.reduceLeDiff]
    clear hun hge k2 k1 hi
    ((repeat refine W_seq ?_); refine W_region0 T_ok ?_)
    simp (maxSteps := 1000000) only [VL, VM, ↓Gd_none, ↓Gd_t, ↓Gd_f, reduceIte, reduceCtorEq, Int.reduceLE, Int.reduceLT, Int.reduceToNat, Int.reduceNeg, Nat.reduceLT, Nat.reduceEqDiff, Nat.reduceAdd, Nat.reduceSub, Nat.reduceMul, Nat.reduceLeDiff, DH_app hd, DH_len, DH_len0, DH_get hd, DH_get0 hd, DH_set hd, DH_set0 hd, DH_setd, DH_die hd]
    ((repeat refine W_seq ?_); refine W_block ?_; (repeat refine W_seq ?_)); refine W_loopS (fun s : Nat × Int × Ki × Ki => [(3, .ptr d 0), (4, .ptr H0.length 0), (5, .ptr (H0.length + 11) 0), (7, vi (s.1 : Int))]) (fun s => ⟨DH H0 d s.2.1 [.obj (hallC h), .dead, .dead, .obj (cellsC h.water), .obj (cellsC h.shut), .obj (List.map vi bs), .obj [vi s.2.2.1.lo, vi s.2.2.1.hi, vb s.2.2.1.water, .bf (H0.length + 8) 0 2 1, vi s.2.2.1.rent, vi s.2.2.1.most, vi s.2.2.2.lo, vi s.2.2.2.hi, vb s.2.2.2.water, .bf (H0.length + 10) 0 2 1, vi s.2.2.2.rent, vi s.2.2.2.most], .dead, .obj (List.map vi s.2.2.1.away), .dead, .obj (List.map vi s.2.2.2.away), .obj [vi h.wide, vi h.deep, .bf (H0.length + 3) 0 h.water.length 2, .bf (H0.length + 4) 0 h.shut.length 2, vi h.bay.x, vi h.bay.y, .bf (H0.length + 5) 0 h.bears.length 1, .bf (H0.length + 6) 0 2 6]], lg⟩) (fun s => 2 - s.1) (fun s => s.1 ≤ 2 ∧ KS 2 a s.2.2.1 ∧ KS 2 b s.2.2.2 ∧ (s.1 ≤ 0 → s.2.2.1 = a) ∧ (s.1 ≤ 1 → s.2.2.2 = b)) (0, u, a, b) ⟨by omega, KS.refl ga, KS.refl gb, fun _ => rfl, fun _ => rfl⟩ ⟨rfl, rfl, rfl, rfl, trivial⟩ rfl ?_
    clear u
    rintro ⟨i, u, p, q⟩ ⟨hi, sp, sq, ep, eq⟩
    simp only at hi sp ep sq eq
    have hcase : i = 0 ∨ i = 1 ∨ i = 2 := by omega
    rcases hcase with rfl | rfl | rfl
    · obtain rfl := (ep (Nat.le_refl _)).symm
      have k2 : (((0 : Nat) : Int) < ((2 : Nat) : Int)) = True := eq_true (by decide)
      have b1 := ga.lo
      have b2 := ga.le
      have b3 := ga.hi
      have b5 := ga.rent
      have b6 := ga.most
      have f1 := fromF_range (u := u) (lo := 0) (hi := a.lo) (by omega)
      have c2 := castF_range (u := fromU u 0 a.lo) (n := a.hi - a.lo + 1) (by omega)
      have w1 : -9223372036854775808 ≤ a.hi - a.lo ∧ a.hi - a.lo < 9223372036854775808 := by omega
      have w2 : -9223372036854775808 ≤ a.hi - a.lo + 1 ∧ a.hi - a.lo + 1 < 9223372036854775808 := by omega
      ((repeat refine W_seq ?_); refine W_region0 T_ok ?_)
      simp (maxSteps := 1000000) only [VL, VM, ↓Gd_none, ↓Gd_t, ↓Gd_f, reduceIte, reduceCtorEq, Int.reduceLE, Int.reduceLT, Int.reduceToNat, Int.reduceNeg, Nat.reduceLT, Nat.reduceEqDiff, Nat.reduceAdd, Nat.reduceSub, Nat.reduceMul, Nat.reduceLeDiff, k2, DH_app hd, DH_len, DH_len0, DH_get hd, DH_get0 hd, DH_set hd, DH_set0 hd, DH_setd, DH_die hd]
      ((repeat refine W_seq ?_); refine W_cond (b := true) (by first | rfl | simp only [ev, get_cons, Nat.reduceEqDiff, if_true, if_false, reduceIte]) (fun _ => ?_) (fun h => by cases h))
      ((repeat refine W_seq ?_); refine W_skip ?_)
      simp (maxSteps := 1000000) only [VL, VM, ↓Gd_none, ↓Gd_t, ↓Gd_f, reduceIte, reduceCtorEq, Int.reduceLE, Int.reduceLT, Int.reduceToNat, Int.reduceNeg, Nat.reduceLT, Nat.reduceEqDiff, Nat.reduceAdd, Nat.reduceSub, Nat.reduceMul, Nat.reduceLeDiff]
      ((repeat refine W_seq ?_); refine W_block ?_)
      ((repeat refine W_seq ?_); refine W_region0 T_ok ?_)
      simp (maxSteps := 1000000) only [VL, VM, ↓Gd_none, ↓Gd_t, ↓Gd_f, reduceIte, reduceCtorEq, Int.reduceLE, Int.reduceLT, Int.reduceToNat, Int.reduceNeg, Nat.reduceLT, Nat.reduceEqDiff, Nat.reduceAdd, Nat.reduceSub, Nat.reduceMul, Nat.reduceLeDiff, DH_app hd, DH_len, DH_len0, DH_get hd, DH_get0 hd, DH_set hd, DH_set0 hd, DH_setd, DH_die hd]
      (repeat refine W_seq ?_)
      refine W_drawP T_ok [] (by kernel_rfl) (by kernel_rfl) ?_
      generalize hi : mkPlan _ = infs
      cbv at hi
      subst hi
      simp (maxSteps := 1000000) only [VL, VM, ↓Gd_none, ↓Gd_t, ↓Gd_f, reduceIte, reduceCtorEq, Int.reduceLE, Int.reduceLT, Int.reduceToNat, Int.reduceNeg, Nat.reduceLT, Nat.reduceEqDiff, Nat.reduceAdd, Nat.reduceSub, Nat.reduceMul, Nat.reduceLeDiff, DH_app hd, DH_len, DH_len0, DH_get hd, DH_get0 hd, DH_set hd, DH_set0 hd, DH_setd, DH_die hd, w1, w2]
      apply call_d (f := 46) (fn := Try.f46) (by kernel_rfl) (by rfl)
      · exact from_c hd u 0 a.lo _ (by omega) (by omega) (by omega) (by omega)
      simp (maxSteps := 1000000) only [VL, VM, ↓Gd_none, ↓Gd_t, ↓Gd_f, reduceIte, reduceCtorEq, Int.reduceLE, Int.reduceLT, Int.reduceToNat, Int.reduceNeg, Nat.reduceLT, Nat.reduceEqDiff, Nat.reduceAdd, Nat.reduceSub, Nat.reduceMul, Nat.reduceLeDiff, DH_app hd, DH_len, DH_len0, DH_get hd, DH_get0 hd, DH_set hd, DH_set0 hd, DH_setd, DH_die hd, w1, w2]
      apply call_d (f := 45) (fn := Try.f45) (by kernel_rfl) (by rfl)
      · exact cast_c hd (fromU u 0 a.lo) (a.hi - a.lo + 1) _ (by omega)
      generalize fromF u 0 a.lo = lo2 at *
      generalize castF (fromU u 0 a.lo) (a.hi - a.lo + 1) = q2 at *
      generalize castU (fromU u 0 a.lo) (a.hi - a.lo + 1) = v1 at *
      have w3 : -9223372036854775808 ≤ a.lo + q2 ∧ a.lo + q2 < 9223372036854775808 := by omega
      simp (maxSteps := 1000000) only [VL, VM, ↓Gd_none, ↓Gd_t, ↓Gd_f, reduceIte, reduceCtorEq, Int.reduceLE, Int.reduceLT, Int.reduceToNat, Int.reduceNeg, Nat.reduceLT, Nat.reduceEqDiff, Nat.reduceAdd, Nat.reduceSub, Nat.reduceMul, Nat.reduceLeDiff, DH_app hd, DH_len, DH_len0, DH_get hd, DH_get0 hd, DH_set hd, DH_set0 hd, DH_setd, DH_die hd, w1, w2, w3]
      apply call_d (f := 30) (fn := Try.f30) (by kernel_rfl) (by rfl)
      · exact spanc_v _ _ _
      simp (maxSteps := 1000000) only [VL, VM, ↓Gd_none, ↓Gd_t, ↓Gd_f, reduceIte, reduceCtorEq, Int.reduceLE, Int.reduceLT, Int.reduceToNat, Int.reduceNeg, Nat.reduceLT, Nat.reduceEqDiff, Nat.reduceAdd, Nat.reduceSub, Nat.reduceMul, Nat.reduceLeDiff, DH_app hd, DH_len, DH_len0, DH_get hd, DH_get0 hd, DH_set hd, DH_set0 hd, DH_setd, DH_die hd]
      have c3 := castF_range (u := v1) (n := 9) (by omega)
      have c4 := castF_range (u := castU v1 9) (n := 2) (by omega)
      (repeat refine W_seq ?_)
      refine W_drawP T_ok [] (by kernel_rfl) (by kernel_rfl) ?_
      generalize hi : mkPlan _ = infs
      cbv at hi
      subst hi
      simp (maxSteps := 1000000) only [VL, VM, ↓Gd_none, ↓Gd_t, ↓Gd_f, reduceIte, reduceCtorEq, Int.reduceLE, Int.reduceLT, Int.reduceToNat, Int.reduceNeg, Nat.reduceLT, Nat.reduceEqDiff, Nat.reduceAdd, Nat.reduceSub, Nat.reduceMul, Nat.reduceLeDiff, DH_app hd, DH_len, DH_len0, DH_get hd, DH_get0 hd, DH_set hd, DH_set0 hd, DH_setd, DH_die hd]
      apply call_d (f := 45) (fn := Try.f45) (by kernel_rfl) (by rfl)
      · exact cast_c hd v1 9 _ (by omega)
      generalize castF v1 9 = q3 at *
      generalize castU v1 9 = v2 at *
      have w4 : -9223372036854775808 ≤ a.rent + q3 ∧ a.rent + q3 < 9223372036854775808 := by omega
      simp (maxSteps := 1000000) only [VL, VM, ↓Gd_none, ↓Gd_t, ↓Gd_f, reduceIte, reduceCtorEq, Int.reduceLE, Int.reduceLT, Int.reduceToNat, Int.reduceNeg, Nat.reduceLT, Nat.reduceEqDiff, Nat.reduceAdd, Nat.reduceSub, Nat.reduceMul, Nat.reduceLeDiff, DH_app hd, DH_len, DH_len0, DH_get hd, DH_get0 hd, DH_set hd, DH_set0 hd, DH_setd, DH_die hd, w4]
      apply call_d (f := 45) (fn := Try.f45) (by kernel_rfl) (by rfl)
      · exact cast_c hd v2 2 _ (by omega)
      generalize castF v2 2 = q4 at *
      generalize castU v2 2 = v3 at *
      have w5 : -9223372036854775808 ≤ a.most + q4 ∧ a.most + q4 < 9223372036854775808 := by omega
      simp (maxSteps := 1000000) only [VL, VM, ↓Gd_none, ↓Gd_t, ↓Gd_f, reduceIte, reduceCtorEq, Int.reduceLE, Int.reduceLT, Int.reduceToNat, Int.reduceNeg, Nat.reduceLT, Nat.reduceEqDiff, Nat.reduceAdd, Nat.reduceSub, Nat.reduceMul, Nat.reduceLeDiff, DH_app hd, DH_len, DH_len0, DH_get hd, DH_get0 hd, DH_set hd, DH_set0 hd, DH_setd, DH_die hd, w4, w5]
      ((repeat refine W_seq ?_); refine W_region0 T_ok ?_)
      simp (maxSteps := 1000000) only [VL, VM, ↓Gd_none, ↓Gd_t, ↓Gd_f, reduceIte, reduceCtorEq, Int.reduceLE, Int.reduceLT, Int.reduceToNat, Int.reduceNeg, Nat.reduceLT, Nat.reduceEqDiff, Nat.reduceAdd, Nat.reduceSub, Nat.reduceMul, Nat.reduceLeDiff]
      ((repeat refine W_seq ?_); refine W_block ?_; (repeat refine W_seq ?_)); refine W_loopS (fun s : Nat × Int × List Int => [(3, .ptr d 0), (4, .ptr H0.length 0), (5, .ptr (H0.length + 11) 0), (7, vi ((0 : Nat) : Int)), (8, .ptr (H0.length + 6) 0), (9, vi (s.1 : Int))]) (fun s => ⟨DH H0 d s.2.1 [.obj (hallC h), .dead, .dead, .obj (cellsC h.water), .obj (cellsC h.shut), .obj (List.map vi bs), .obj [vi lo2, vi (a.lo + q2), vb a.water, .bf (H0.length + 8) 0 2 1, vi (a.rent + q3), vi (a.most + q4), vi q.lo, vi q.hi, vb q.water, .bf (H0.length + 10) 0 2 1, vi q.rent, vi q.most], .dead, .obj (List.map vi s.2.2), .dead, .obj (List.map vi q.away), .obj [vi h.wide, vi h.deep, .bf (H0.length + 3) 0 h.water.length 2, .bf (H0.length + 4) 0 h.shut.length 2, vi h.bay.x, vi h.bay.y, .bf (H0.length + 5) 0 h.bears.length 1, .bf (H0.length + 6) 0 2 6]], lg⟩) (fun s => 2 - s.1) (fun s => s.1 ≤ 2 ∧ AS 2 a.away s.2.2) (0, v3, a.away) ⟨Nat.zero_le _, AS.refl ga.len ga.aw⟩ ⟨rfl, rfl, rfl, rfl, rfl, rfl, trivial⟩ rfl ?_
      rintro ⟨l, v, aw⟩ ⟨hl, hA⟩
      simp only at hl hA
      have hAl := hA.len
      have k1 : -9223372036854775808 ≤ (l : Int) + 1 ∧ (l : Int) + 1 < 9223372036854775808 := by omega
      ((repeat refine W_seq ?_); refine W_region0 T_ok ?_)
      rcases Nat.lt_or_ge l 2 with hlt | hge
      · have k3 : ((l : Int) < ((2 : Nat) : Int)) = True := eq_true (by omega)
        have hx : aw[l]? = some (aw.getD l 0) := by
          rw [List.getD_eq_getElem?_getD, List.getElem?_eq_getElem (show l < aw.length by omega)]; rfl
        have hxb := hA.aw _ (List.mem_of_getElem? hx)
        have hup := fun q (h0 : 0 ≤ q ∧ q ≤ aw.getD l 0) => hA.up (i := l) (q := q) (by omega) h0
        generalize aw.getD l 0 = x at hx hxb hup
        have hx1 : (List.map vi aw)[l]? = some (vi x) := by rw [List.getElem?_map, hx]; rfl
        have hx3 : (l + 1 ≤ aw.length) = True := eq_true (by omega)
        have f2 := fromF_range (u := v) (lo := 0) (hi := x) (by omega)
        simp (maxSteps := 1000000) only [VL, VM, ↓Gd_none, ↓Gd_t, ↓Gd_f, reduceIte, reduceCtorEq, Int.reduceLE, Int.reduceLT, Int.reduceToNat, Int.reduceNeg, Nat.reduceLT, Nat.reduceEqDiff, Nat.reduceAdd, Nat.reduceSub, Nat.reduceMul, Nat.reduceLeDiff, k3, DH_app hd, DH_len, DH_len0, DH_get hd, DH_get0 hd, DH_set hd, DH_set0 hd, DH_setd, DH_die hd]
        ((repeat refine W_seq ?_); refine W_cond (b := true) (by first | rfl | simp only [ev, get_cons, Nat.reduceEqDiff, if_true, if_false, reduceIte]) (fun _ => ?_) (fun h => by cases h))
        ((repeat refine W_seq ?_); refine W_skip ?_)
        simp (maxSteps := 1000000) only [VL, VM, ↓Gd_none, ↓Gd_t, ↓Gd_f, reduceIte, reduceCtorEq, Int.reduceLE, Int.reduceLT, Int.reduceToNat, Int.reduceNeg, Nat.reduceLT, Nat.reduceEqDiff, Nat.reduceAdd, Nat.reduceSub, Nat.reduceMul, Nat.reduceLeDiff]
        ((repeat refine W_seq ?_); refine W_block ?_)
        (repeat refine W_seq ?_)
        refine W_drawP T_ok [] (by kernel_rfl) (by kernel_rfl) ?_
        generalize hi : mkPlan _ = infs
        cbv at hi
        subst hi
        simp (maxSteps := 1000000) only [VL, VM, ↓Gd_none, ↓Gd_t, ↓Gd_f, reduceIte, reduceCtorEq, Int.reduceLE, Int.reduceLT, Int.reduceToNat, Int.reduceNeg, Nat.reduceLT, Nat.reduceEqDiff, Nat.reduceAdd, Nat.reduceSub, Nat.reduceMul, Nat.reduceLeDiff, DH_app hd, DH_len, DH_len0, DH_get hd, DH_get0 hd, DH_set hd, DH_set0 hd, DH_setd, DH_die hd, eq_true hlt, hx1]
        apply call_d (f := 46) (fn := Try.f46) (by kernel_rfl) (by rfl)
        · exact from_c hd v 0 x _ (by omega) (by omega) (by omega) (by omega)
        generalize fromF v 0 x = y at *
        generalize fromU v 0 x = v4 at *
        have hx2 : List.map vi (List.take l aw) ++ vi y :: List.map vi (List.drop (l + 1) aw) = List.map vi (aw.set l y) := by
          rw [List.set_eq_take_append_cons_drop, if_pos (by omega)]
          simp
        simp (maxSteps := 1000000) only [VL, VM, ↓Gd_none, ↓Gd_t, ↓Gd_f, reduceIte, reduceCtorEq, Int.reduceLE, Int.reduceLT, Int.reduceToNat, Int.reduceNeg, Nat.reduceLT, Nat.reduceEqDiff, Nat.reduceAdd, Nat.reduceSub, Nat.reduceMul, Nat.reduceLeDiff, DH_app hd, DH_len, DH_len0, DH_get hd, DH_get0 hd, DH_set hd, DH_set0 hd, DH_setd, DH_die hd, eq_true hlt, hx1, hx2, hx3]
        ((repeat refine W_seq ?_); refine W_region0 T_ok ?_)
        simp (maxSteps := 1000000) only [VL, VM, ↓Gd_none, ↓Gd_t, ↓Gd_f, reduceIte, reduceCtorEq, Int.reduceLE, Int.reduceLT, Int.reduceToNat, Int.reduceNeg, Nat.reduceLT, Nat.reduceEqDiff, Nat.reduceAdd, Nat.reduceSub, Nat.reduceMul, Nat.reduceLeDiff, k1]
        exact LoopK.mk (l + 1, v4, aw.set l y) (by simp only; omega) ⟨by simp only; omega, hup y (by omega)⟩ ⟨rfl, rfl, rfl, rfl, rfl, rfl, trivial⟩ rfl
      have k3 : ((l : Int) < ((2 : Nat) : Int)) = False := eq_false (by omega)
      simp (maxSteps := 1000000) only [VL, VM, ↓Gd_none, ↓Gd_t, ↓Gd_f, reduceIte, reduceCtorEq, Int.reduceLE, Int.reduceLT, Int.reduceToNat, Int.reduceNeg, Nat.reduceLT, Nat.reduceEqDiff, Nat.reduceAdd, Nat.reduceSub, Nat.reduceMul, Nat.reduceLeDiff, k3, DH_app hd, DH_len, DH_len0, DH_get hd, DH_get0 hd, DH_set hd, DH_set0 hd, DH_setd, DH_die hd]
      ((repeat refine W_seq ?_); refine W_cond (b := false) (by first | rfl | simp only [ev, get_cons, Nat.reduceEqDiff, if_true, if_false, reduceIte]) (fun h => by cases h) (fun _ => ?_))
      ((repeat refine W_seq ?_); refine W_exit ?_)
      simp (maxSteps := 1000000) only [VL, VM, ↓Gd_none, ↓Gd_t, ↓Gd_f, reduceIte, reduceCtorEq, Int.reduceLE, Int.reduceLT, Int.reduceToNat, Int.reduceNeg, Nat.reduceLT, Nat.reduceEqDiff, Nat.reduceAdd, Nat.reduceSub, Nat.reduceMul, Nat.reduceLeDiff]
      have k9 : -9223372036854775808 ≤ ((0 : Nat) : Int) + 1 ∧ ((0 : Nat) : Int) + 1 < 9223372036854775808 := by omega
      ((repeat refine W_seq ?_); refine W_region0 T_ok ?_)
      simp (maxSteps := 1000000) only [VL, VM, ↓Gd_none, ↓Gd_t, ↓Gd_f, reduceIte, reduceCtorEq, Int.reduceLE, Int.reduceLT, Int.reduceToNat, Int.reduceNeg, Nat.reduceLT, Nat.reduceEqDiff, Nat.reduceAdd, Nat.reduceSub, Nat.reduceMul, Nat.reduceLeDiff, k9]
      refine LoopK.mk (1, v, (⟨lo2, a.lo + q2, a.water, aw, a.rent + q3, a.most + q4⟩ : Ki), q) (by simp only; omega) ⟨by simp only; omega, KS.upd ga hA (by omega) (by omega) (by omega) (by omega), sq, fun hh => absurd hh (by simp only; omega), fun _ => eq (by omega)⟩ ⟨rfl, rfl, rfl, ?_, trivial⟩ rfl
      simp only [get_cons, if_true]
      rfl
    · obtain rfl := (eq (Nat.le_refl _)).symm
      have k2 : (((1 : Nat) : Int) < ((2 : Nat) : Int)) = True := eq_true (by decide)
      have b1 := gb.lo
      have b2 := gb.le
      have b3 := gb.hi
      have b5 := gb.rent
      have b6 := gb.most
      have f1 := fromF_range (u := u) (lo := 0) (hi := b.lo) (by omega)
      have c2 := castF_range (u := fromU u 0 b.lo) (n := b.hi - b.lo + 1) (by omega)
      have w1 : -9223372036854775808 ≤ b.hi - b.lo ∧ b.hi - b.lo < 9223372036854775808 := by omega
      have w2 : -9223372036854775808 ≤ b.hi - b.lo + 1 ∧ b.hi - b.lo + 1 < 9223372036854775808 := by omega
      ((repeat refine W_seq ?_); refine W_region0 T_ok ?_)
      simp (maxSteps := 1000000) only [VL, VM, ↓Gd_none, ↓Gd_t, ↓Gd_f, reduceIte, reduceCtorEq, Int.reduceLE, Int.reduceLT, Int.reduceToNat, Int.reduceNeg, Nat.reduceLT, Nat.reduceEqDiff, Nat.reduceAdd, Nat.reduceSub, Nat.reduceMul, Nat.reduceLeDiff, k2, DH_app hd, DH_len, DH_len0, DH_get hd, DH_get0 hd, DH_set hd, DH_set0 hd, DH_setd, DH_die hd]
      ((repeat refine W_seq ?_); refine W_cond (b := true) (by first | rfl | simp only [ev, get_cons, Nat.reduceEqDiff, if_true, if_false, reduceIte]) (fun _ => ?_) (fun h => by cases h))
      ((repeat refine W_seq ?_); refine W_skip ?_)
      simp (maxSteps := 1000000) only [VL, VM, ↓Gd_none, ↓Gd_t, ↓Gd_f, reduceIte, reduceCtorEq, Int.reduceLE, Int.reduceLT, Int.reduceToNat, Int.reduceNeg, Nat.reduceLT, Nat.reduceEqDiff, Nat.reduceAdd, Nat.reduceSub, Nat.reduceMul, Nat.reduceLeDiff]
      ((repeat refine W_seq ?_); refine W_block ?_)
      ((repeat refine W_seq ?_); refine W_region0 T_ok ?_)
      simp (maxSteps := 1000000) only [VL, VM, ↓Gd_none, ↓Gd_t, ↓Gd_f, reduceIte, reduceCtorEq, Int.reduceLE, Int.reduceLT, Int.reduceToNat, Int.reduceNeg, Nat.reduceLT, Nat.reduceEqDiff, Nat.reduceAdd, Nat.reduceSub, Nat.reduceMul, Nat.reduceLeDiff, DH_app hd, DH_len, DH_len0, DH_get hd, DH_get0 hd, DH_set hd, DH_set0 hd, DH_setd, DH_die hd]
      (repeat refine W_seq ?_)
      refine W_drawP T_ok [] (by kernel_rfl) (by kernel_rfl) ?_
      generalize hi : mkPlan _ = infs
      cbv at hi
      subst hi
      simp (maxSteps := 1000000) only [VL, VM, ↓Gd_none, ↓Gd_t, ↓Gd_f, reduceIte, reduceCtorEq, Int.reduceLE, Int.reduceLT, Int.reduceToNat, Int.reduceNeg, Nat.reduceLT, Nat.reduceEqDiff, Nat.reduceAdd, Nat.reduceSub, Nat.reduceMul, Nat.reduceLeDiff, DH_app hd, DH_len, DH_len0, DH_get hd, DH_get0 hd, DH_set hd, DH_set0 hd, DH_setd, DH_die hd, w1, w2]
      apply call_d (f := 46) (fn := Try.f46) (by kernel_rfl) (by rfl)
      · exact from_c hd u 0 b.lo _ (by omega) (by omega) (by omega) (by omega)
      simp (maxSteps := 1000000) only [VL, VM, ↓Gd_none, ↓Gd_t, ↓Gd_f, reduceIte, reduceCtorEq, Int.reduceLE, Int.reduceLT, Int.reduceToNat, Int.reduceNeg, Nat.reduceLT, Nat.reduceEqDiff, Nat.reduceAdd, Nat.reduceSub, Nat.reduceMul, Nat.reduceLeDiff, DH_app hd, DH_len, DH_len0, DH_get hd, DH_get0 hd, DH_set hd, DH_set0 hd, DH_setd, DH_die hd, w1, w2]
      apply call_d (f := 45) (fn := Try.f45) (by kernel_rfl) (by rfl)
      · exact cast_c hd (fromU u 0 b.lo) (b.hi - b.lo + 1) _ (by omega)
      generalize fromF u 0 b.lo = lo2 at *
      generalize castF (fromU u 0 b.lo) (b.hi - b.lo + 1) = q2 at *
      generalize castU (fromU u 0 b.lo) (b.hi - b.lo + 1) = v1 at *
      have w3 : -9223372036854775808 ≤ b.lo + q2 ∧ b.lo + q2 < 9223372036854775808 := by omega
      simp (maxSteps := 1000000) only [VL, VM, ↓Gd_none, ↓Gd_t, ↓Gd_f, reduceIte, reduceCtorEq, Int.reduceLE, Int.reduceLT, Int.reduceToNat, Int.reduceNeg, Nat.reduceLT, Nat.reduceEqDiff, Nat.reduceAdd, Nat.reduceSub, Nat.reduceMul, Nat.reduceLeDiff, DH_app hd, DH_len, DH_len0, DH_get hd, DH_get0 hd, DH_set hd, DH_set0 hd, DH_setd, DH_die hd, w1, w2, w3]
      apply call_d (f := 30) (fn := Try.f30) (by kernel_rfl) (by rfl)
      · exact spanc_v _ _ _
      simp (maxSteps := 1000000) only [VL, VM, ↓Gd_none, ↓Gd_t, ↓Gd_f, reduceIte, reduceCtorEq, Int.reduceLE, Int.reduceLT, Int.reduceToNat, Int.reduceNeg, Nat.reduceLT, Nat.reduceEqDiff, Nat.reduceAdd, Nat.reduceSub, Nat.reduceMul, Nat.reduceLeDiff, DH_app hd, DH_len, DH_len0, DH_get hd, DH_get0 hd, DH_set hd, DH_set0 hd, DH_setd, DH_die hd]
      have c3 := castF_range (u := v1) (n := 9) (by omega)
      have c4 := castF_range (u := castU v1 9) (n := 2) (by omega)
      (repeat refine W_seq ?_)
      refine W_drawP T_ok [] (by kernel_rfl) (by kernel_rfl) ?_
      generalize hi : mkPlan _ = infs
      cbv at hi
      subst hi
      simp (maxSteps := 1000000) only [VL, VM, ↓Gd_none, ↓Gd_t, ↓Gd_f, reduceIte, reduceCtorEq, Int.reduceLE, Int.reduceLT, Int.reduceToNat, Int.reduceNeg, Nat.reduceLT, Nat.reduceEqDiff, Nat.reduceAdd, Nat.reduceSub, Nat.reduceMul, Nat.reduceLeDiff, DH_app hd, DH_len, DH_len0, DH_get hd, DH_get0 hd, DH_set hd, DH_set0 hd, DH_setd, DH_die hd]
      apply call_d (f := 45) (fn := Try.f45) (by kernel_rfl) (by rfl)
      · exact cast_c hd v1 9 _ (by omega)
      generalize castF v1 9 = q3 at *
      generalize castU v1 9 = v2 at *
      have w4 : -9223372036854775808 ≤ b.rent + q3 ∧ b.rent + q3 < 9223372036854775808 := by omega
      simp (maxSteps := 1000000) only [VL, VM, ↓Gd_none, ↓Gd_t, ↓Gd_f, reduceIte, reduceCtorEq, Int.reduceLE, Int.reduceLT, Int.reduceToNat, Int.reduceNeg, Nat.reduceLT, Nat.reduceEqDiff, Nat.reduceAdd, Nat.reduceSub, Nat.reduceMul, Nat.reduceLeDiff, DH_app hd, DH_len, DH_len0, DH_get hd, DH_get0 hd, DH_set hd, DH_set0 hd, DH_setd, DH_die hd, w4]
      apply call_d (f := 45) (fn := Try.f45) (by kernel_rfl) (by rfl)
      · exact cast_c hd v2 2 _ (by omega)
      generalize castF v2 2 = q4 at *
      generalize castU v2 2 = v3 at *
      have w5 : -9223372036854775808 ≤ b.most + q4 ∧ b.most + q4 < 9223372036854775808 := by omega
      simp (maxSteps := 1000000) only [VL, VM, ↓Gd_none, ↓Gd_t, ↓Gd_f, reduceIte, reduceCtorEq, Int.reduceLE, Int.reduceLT, Int.reduceToNat, Int.reduceNeg, Nat.reduceLT, Nat.reduceEqDiff, Nat.reduceAdd, Nat.reduceSub, Nat.reduceMul, Nat.reduceLeDiff, DH_app hd, DH_len, DH_len0, DH_get hd, DH_get0 hd, DH_set hd, DH_set0 hd, DH_setd, DH_die hd, w4, w5]
      ((repeat refine W_seq ?_); refine W_region0 T_ok ?_)
      simp (maxSteps := 1000000) only [VL, VM, ↓Gd_none, ↓Gd_t, ↓Gd_f, reduceIte, reduceCtorEq, Int.reduceLE, Int.reduceLT, Int.reduceToNat, Int.reduceNeg, Nat.reduceLT, Nat.reduceEqDiff, Nat.reduceAdd, Nat.reduceSub, Nat.reduceMul, Nat.reduceLeDiff]
      ((repeat refine W_seq ?_); refine W_block ?_; (repeat refine W_seq ?_)); refine W_loopS (fun s : Nat × Int × List Int => [(3, .ptr d 0), (4, .ptr H0.length 0), (5, .ptr (H0.length + 11) 0), (7, vi ((1 : Nat) : Int)), (8, .ptr (H0.length + 6) 6), (9, vi (s.1 : Int))]) (fun s => ⟨DH H0 d s.2.1 [.obj (hallC h), .dead, .dead, .obj (cellsC h.water), .obj (cellsC h.shut), .obj (List.map vi bs), .obj [vi p.lo, vi p.hi, vb p.water, .bf (H0.length + 8) 0 2 1, vi p.rent, vi p.most, vi lo2, vi (b.lo + q2), vb b.water, .bf (H0.length + 10) 0 2 1, vi (b.rent + q3), vi (b.most + q4)], .dead, .obj (List.map vi p.away), .dead, .obj (List.map vi s.2.2), .obj [vi h.wide, vi h.deep, .bf (H0.length + 3) 0 h.water.length 2, .bf (H0.length + 4) 0 h.shut.length 2, vi h.bay.x, vi h.bay.y, .bf (H0.length + 5) 0 h.bears.length 1, .bf (H0.length + 6) 0 2 6]], lg⟩) (fun s => 2 - s.1) (fun s => s.1 ≤ 2 ∧ AS 2 b.away s.2.2) (0, v3, b.away) ⟨Nat.zero_le _, AS.refl gb.len gb.aw⟩ ⟨rfl, rfl, rfl, rfl, rfl, rfl, trivial⟩ rfl ?_
      rintro ⟨l, v, aw⟩ ⟨hl, hA⟩
      simp only at hl hA
      have hAl := hA.len
      have k1 : -9223372036854775808 ≤ (l : Int) + 1 ∧ (l : Int) + 1 < 9223372036854775808 := by omega
      ((repeat refine W_seq ?_); refine W_region0 T_ok ?_)
      rcases Nat.lt_or_ge l 2 with hlt | hge
      · have k3 : ((l : Int) < ((2 : Nat) : Int)) = True := eq_true (by omega)
        have hx : aw[l]? = some (aw.getD l 0) := by
          rw [List.getD_eq_getElem?_getD, List.getElem?_eq_getElem (show l < aw.length by omega)]; rfl
        have hxb := hA.aw _ (List.mem_of_getElem? hx)
        have hup := fun q (h0 : 0 ≤ q ∧ q ≤ aw.getD l 0) => hA.up (i := l) (q := q) (by omega) h0
        generalize aw.getD l 0 = x at hx hxb hup
        have hx1 : (List.map vi aw)[l]? = some (vi x) := by rw [List.getElem?_map, hx]; rfl
        have hx3 : (l + 1 ≤ aw.length) = True := eq_true (by omega)
        have f2 := fromF_range (u := v) (lo := 0) (hi := x) (by omega)
        simp (maxSteps := 1000000) only [VL, VM, ↓Gd_none, ↓Gd_t, ↓Gd_f, reduceIte, reduceCtorEq, Int.reduceLE, Int.reduceLT, Int.reduceToNat, Int.reduceNeg, Nat.reduceLT, Nat.reduceEqDiff, Nat.reduceAdd, Nat.reduceSub, Nat.reduceMul, Nat.reduceLeDiff, k3, DH_app hd, DH_len, DH_len0, DH_get hd, DH_get0 hd, DH_set hd, DH_set0 hd, DH_setd, DH_die hd]
        ((repeat refine W_seq ?_); refine W_cond (b := true) (by first | rfl | simp only [ev, get_cons, Nat.reduceEqDiff, if_true, if_false, reduceIte]) (fun _ => ?_) (fun h => by cases h))
        ((repeat refine W_seq ?_); refine W_skip ?_)
        simp (maxSteps := 1000000) only [VL, VM, ↓Gd_none, ↓Gd_t, ↓Gd_f, reduceIte, reduceCtorEq, Int.reduceLE, Int.reduceLT, Int.reduceToNat, Int.reduceNeg, Nat.reduceLT, Nat.reduceEqDiff, Nat.reduceAdd, Nat.reduceSub, Nat.reduceMul, Nat.reduceLeDiff]
        ((repeat refine W_seq ?_); refine W_block ?_)
        (repeat refine W_seq ?_)
        refine W_drawP T_ok [] (by kernel_rfl) (by kernel_rfl) ?_
        generalize hi : mkPlan _ = infs
        cbv at hi
        subst hi
        simp (maxSteps := 1000000) only [VL, VM, ↓Gd_none, ↓Gd_t, ↓Gd_f, reduceIte, reduceCtorEq, Int.reduceLE, Int.reduceLT, Int.reduceToNat, Int.reduceNeg, Nat.reduceLT, Nat.reduceEqDiff, Nat.reduceAdd, Nat.reduceSub, Nat.reduceMul, Nat.reduceLeDiff, DH_app hd, DH_len, DH_len0, DH_get hd, DH_get0 hd, DH_set hd, DH_set0 hd, DH_setd, DH_die hd, eq_true hlt, hx1]
        apply call_d (f := 46) (fn := Try.f46) (by kernel_rfl) (by rfl)
        · exact from_c hd v 0 x _ (by omega) (by omega) (by omega) (by omega)
        generalize fromF v 0 x = y at *
        generalize fromU v 0 x = v4 at *
        have hx2 : List.map vi (List.take l aw) ++ vi y :: List.map vi (List.drop (l + 1) aw) = List.map vi (aw.set l y) := by
          rw [List.set_eq_take_append_cons_drop, if_pos (by omega)]
          simp
        simp (maxSteps := 1000000) only [VL, VM, ↓Gd_none, ↓Gd_t, ↓Gd_f, reduceIte, reduceCtorEq, Int.reduceLE, Int.reduceLT, Int.reduceToNat, Int.reduceNeg, Nat.reduceLT, Nat.reduceEqDiff, Nat.reduceAdd, Nat.reduceSub, Nat.reduceMul, Nat.reduceLeDiff, DH_app hd, DH_len, DH_len0, DH_get hd, DH_get0 hd, DH_set hd, DH_set0 hd, DH_setd, DH_die hd, eq_true hlt, hx1, hx2, hx3]
        ((repeat refine W_seq ?_); refine W_region0 T_ok ?_)
        simp (maxSteps := 1000000) only [VL, VM, ↓Gd_none, ↓Gd_t, ↓Gd_f, reduceIte, reduceCtorEq, Int.reduceLE, Int.reduceLT, Int.reduceToNat, Int.reduceNeg, Nat.reduceLT, Nat.reduceEqDiff, Nat.reduceAdd, Nat.reduceSub, Nat.reduceMul, Nat.reduceLeDiff, k1]
        exact LoopK.mk (l + 1, v4, aw.set l y) (by simp only; omega) ⟨by simp only; omega, hup y (by omega)⟩ ⟨rfl, rfl, rfl, rfl, rfl, rfl, trivial⟩ rfl
      have k3 : ((l : Int) < ((2 : Nat) : Int)) = False := eq_false (by omega)
      simp (maxSteps := 1000000) only [VL, VM, ↓Gd_none, ↓Gd_t, ↓Gd_f, reduceIte, reduceCtorEq, Int.reduceLE, Int.reduceLT, Int.reduceToNat, Int.reduceNeg, Nat.reduceLT, Nat.reduceEqDiff, Nat.reduceAdd, Nat.reduceSub, Nat.reduceMul, Nat.reduceLeDiff, k3, DH_app hd, DH_len, DH_len0, DH_get hd, DH_get0 hd, DH_set hd, DH_set0 hd, DH_setd, DH_die hd]
      ((repeat refine W_seq ?_); refine W_cond (b := false) (by first | rfl | simp only [ev, get_cons, Nat.reduceEqDiff, if_true, if_false, reduceIte]) (fun h => by cases h) (fun _ => ?_))
      ((repeat refine W_seq ?_); refine W_exit ?_)
      simp (maxSteps := 1000000) only [VL, VM, ↓Gd_none, ↓Gd_t, ↓Gd_f, reduceIte, reduceCtorEq, Int.reduceLE, Int.reduceLT, Int.reduceToNat, Int.reduceNeg, Nat.reduceLT, Nat.reduceEqDiff, Nat.reduceAdd, Nat.reduceSub, Nat.reduceMul, Nat.reduceLeDiff]
      have k9 : -9223372036854775808 ≤ ((1 : Nat) : Int) + 1 ∧ ((1 : Nat) : Int) + 1 < 9223372036854775808 := by omega
      ((repeat refine W_seq ?_); refine W_region0 T_ok ?_)
      simp (maxSteps := 1000000) only [VL, VM, ↓Gd_none, ↓Gd_t, ↓Gd_f, reduceIte, reduceCtorEq, Int.reduceLE, Int.reduceLT, Int.reduceToNat, Int.reduceNeg, Nat.reduceLT, Nat.reduceEqDiff, Nat.reduceAdd, Nat.reduceSub, Nat.reduceMul, Nat.reduceLeDiff, k9]
      refine LoopK.mk (2, v, p, (⟨lo2, b.lo + q2, b.water, aw, b.rent + q3, b.most + q4⟩ : Ki)) (by simp only; omega) ⟨by simp only; omega, sp, KS.upd gb hA (by omega) (by omega) (by omega) (by omega), fun hh => absurd hh (by simp only; omega), fun hh => absurd hh (by simp only; omega)⟩ ⟨rfl, rfl, rfl, ?_, trivial⟩ rfl
      simp only [get_cons, if_true]
      rfl
    have k2 : (((2 : Nat) : Int) < ((2 : Nat) : Int)) = False := eq_false (by decide)
    ((repeat refine W_seq ?_); refine W_region0 T_ok ?_)
    simp (maxSteps := 1000000) only [VL, VM, ↓Gd_none, ↓Gd_t, ↓Gd_f, reduceIte, reduceCtorEq, Int.reduceLE, Int.reduceLT, Int.reduceToNat, Int.reduceNeg, Nat.reduceLT, Nat.reduceEqDiff, Nat.reduceAdd, Nat.reduceSub, Nat.reduceMul, Nat.reduceLeDiff, k2, DH_app hd, DH_len, DH_len0, DH_get hd, DH_get0 hd, DH_set hd, DH_set0 hd, DH_setd, DH_die hd]
    ((repeat refine W_seq ?_); refine W_cond (b := false) (by first | rfl | simp only [ev, get_cons, Nat.reduceEqDiff, if_true, if_false, reduceIte]) (fun h => by cases h) (fun _ => ?_))
    refine W_frz1 (id := H0.length + 8) (n := 2) (k := 1) (o := H0.length + 6) (j := 3) (xs := p.away.map intP) (by rw [DH_get hd, flat_ints]; rfl) (by rw [DH_get hd]; rfl) rfl (by simp) (by rw [List.length_map]; exact sp.len) (by omega) ?_
    simp only [DH_set hd, List.set_cons_zero, List.set_cons_succ]
    refine W_frz1 (id := H0.length + 10) (n := 2) (k := 1) (o := H0.length + 6) (j := 9) (xs := q.away.map intP) (by rw [DH_get hd, flat_ints]; rfl) (by rw [DH_get hd]; rfl) rfl (by simp) (by rw [List.length_map]; exact sq.len) (by omega) ?_
    simp only [DH_set hd, List.set_cons_zero, List.set_cons_succ]
    refine W_frz1 (id := H0.length + 6) (n := 2) (k := 6) (o := H0.length + 11) (j := 7) (xs := [p, q].map kiP) (by rw [DH_get hd]; rfl) (by rw [DH_get hd]; rfl) rfl (by simp) rfl (by omega) ?_
    simp only [DH_set hd, List.set_cons_zero, List.set_cons_succ]
    refine W_frz1 (id := H0.length + 5) (n := h.bears.length) (k := 1) (o := H0.length + 11) (j := 6) (xs := bs.map intP) (by rw [DH_get hd, flat_ints]; rfl) (by rw [DH_get hd]; rfl) rfl (by simp) (by rw [List.length_map]; exact hbl) (by omega) ?_
    simp only [DH_set hd, List.set_cons_zero, List.set_cons_succ]
    refine W_frz1 (id := H0.length + 4) (n := h.shut.length) (k := 2) (o := H0.length + 11) (j := 3) (xs := h.shut.map plP) (by rw [DH_get hd]; rfl) (by rw [DH_get hd]; rfl) rfl (by simp) (by rw [List.length_map]) (by omega) ?_
    simp only [DH_set hd, List.set_cons_zero, List.set_cons_succ]
    refine W_frz1 (id := H0.length + 3) (n := h.water.length) (k := 2) (o := H0.length + 11) (j := 2) (xs := h.water.map plP) (by rw [DH_get hd]; rfl) (by rw [DH_get hd]; rfl) rfl (by simp) (by rw [List.length_map]) (by omega) ?_
    simp only [DH_set hd, List.set_cons_zero, List.set_cons_succ]
    obtain ⟨x, hx⟩ : ∃ x : Ha, x = ⟨h.wide, h.deep, h.water, h.shut, h.bay, bs, [p, q]⟩ := ⟨_, rfl⟩
    have hxc : [vi h.wide, vi h.deep, VV.p (PV.sl 2 (List.map plP h.water)), VV.p (PV.sl 2 (List.map plP h.shut)), vi h.bay.x, vi h.bay.y, VV.p (PV.sl 1 (List.map intP bs)), VV.p (PV.sl 6 (List.map kiP [p, q]))] = hallC x := by rw [hx]
    rw [hxc]
    have hbsin : ∀ n ∈ bs, 0 ≤ n ∧ n ≤ 10000000 := fun n hn => by
      obtain ⟨i, hi, rfl⟩ := List.getElem_of_mem hn
      have h1 := hbs.ge i
      rw [List.getD_eq_getElem?_getD (l := bs), List.getElem?_eq_getElem hi, List.getD_eq_getElem?_getD, List.getElem?_eq_getElem (show i < h.bears.length by omega)] at h1
      simp only [Option.getD_some] at h1
      have := hG.bs _ (List.getElem_mem (show i < h.bears.length by omega))
      omega
    have Vx : VH x := by
      rw [hx]
      refine ⟨V.w1, V.w2, V.d1, V.d2, V.x1, V.x2, V.y1, V.y2, V.water, V.shut, ?_, hbsin, by simp, by simp, fun k hk => ?_⟩
      · have := V.bears
        rw [← hbl] at this
        exact this
      · simp only [List.mem_cons, List.not_mem_nil, or_false] at hk
        rcases hk with rfl | rfl
        · exact ⟨sp.lo, sp.le, by have := sp.hi; omega, sp.len, fun n hn => by have := sp.aw n hn; omega, sp.rent.1, by have := sp.rent; omega, sp.most.1, by have := sp.most; omega⟩
        · exact ⟨sq.lo, sq.le, by have := sq.hi; omega, sq.len, fun n hn => by have := sq.aw n hn; omega, sq.rent.1, by have := sq.rent; omega, sq.most.1, by have := sq.most; omega⟩
    have hS : HStr h x := by
      rw [hx]
      refine ⟨rfl, rfl, rfl, rfl, rfl, hbl, fun i => (hbs.ge i).1, r3.symm, fun i k k' h1 h2 => ?_⟩
      rw [hk] at h1
      simp only at h2
      rcases i with _ | _ | i
      · simp only [List.getElem?_cons_zero, List.getElem?_cons_succ, Option.some.injEq] at h1 h2
        subst h1 h2
        exact sp.str
      · simp only [List.getElem?_cons_zero, List.getElem?_cons_succ, Option.some.injEq] at h1 h2
        subst h1 h2
        exact sq.str
      · simp at h1
    have Fx : Fin x := by
      rw [hx]
      refine ⟨F.water, F.shut, by show bs.length ≤ _; omega, by simp, fun k hk => ?_⟩
      simp only [List.mem_cons, List.not_mem_nil, or_false] at hk
      rcases hk with rfl | rfl
      · have := sp.len
        omega
      · have := sq.len
        omega
    have hxw : x.wide = h.wide := by rw [hx]
    have hxd : x.deep = h.deep := by rw [hx]
    clear hxc
    have hvx := hall_zero2 Vx
    have hopn : ∀ k : Ha, k.wide = h.wide → k.deep = h.deep → (openL k).length ≤ 6 := by
      intro k e1 e2
      have h1 : (openL k).length ≤ (placesL k).length := List.length_filter_le _ _
      have h2 : (placesL k).length = dp * wd := by
        unfold placesL
        rw [rowsOf_len, e1, e2, hwd, hdp]; rfl
      have h3 : dp * wd ≤ 2 * 3 := Nat.mul_le_mul (by omega) (by omega)
      omega
    have hbe : bestErr h = 0 := by unfold bestErr; rw [if_neg (by simp [hv]), if_neg (by have := hopn h rfl rfl; omega)]
    have hbx : bestErr x = 0 := by unfold bestErr; rw [if_neg (by simp [hvx]), if_neg (by have := hopn x hxw hxd; omega)]
    have hle := stronger_best V Vx hS
    obtain ⟨_, bA, _⟩ := best_spec V
    obtain ⟨_, bX, _⟩ := best_spec Vx
    clear hx
    ((repeat refine W_seq ?_); refine W_exit ?_)
    simp (maxSteps := 1000000) only [VL, VM, ↓Gd_none, ↓Gd_t, ↓Gd_f, reduceIte, reduceCtorEq, Int.reduceLE, Int.reduceLT, Int.reduceToNat, Int.reduceNeg, Nat.reduceLT, Nat.reduceEqDiff, Nat.reduceAdd, Nat.reduceSub, Nat.reduceMul, Nat.reduceLeDiff]
    ((repeat refine W_seq ?_); refine W_region0 T_ok ?_)
    simp (maxSteps := 1000000) only [VL, VM, ↓Gd_none, ↓Gd_t, ↓Gd_f, reduceIte, reduceCtorEq, Int.reduceLE, Int.reduceLT, Int.reduceToNat, Int.reduceNeg, Nat.reduceLT, Nat.reduceEqDiff, Nat.reduceAdd, Nat.reduceSub, Nat.reduceMul, Nat.reduceLeDiff, DH_app hd, DH_len, DH_len0, DH_get hd, DH_get0 hd, DH_set hd, DH_set0 hd, DH_setd, DH_die hd]
    apply call_eq (f := 19) (fn := Try.f19) (by kernel_rfl) (by rfl)
    · exact best_vm h _ F
    rw [show bestR h = pusV (bestL h) from if_pos hbe, hbe]
    simp (maxSteps := 1000000) only [VL, VM, ↓Gd_none, ↓Gd_t, ↓Gd_f, reduceIte, reduceCtorEq, Int.reduceLE, Int.reduceLT, Int.reduceToNat, Int.reduceNeg, Nat.reduceLT, Nat.reduceEqDiff, Nat.reduceAdd, Nat.reduceSub, Nat.reduceMul, Nat.reduceLeDiff, DH_app hd, DH_len, DH_len0, DH_get hd, DH_get0 hd, DH_set hd, DH_set0 hd, DH_setd, DH_die hd]
    ((repeat refine W_seq ?_); refine W_region0 T_ok ?_)
    simp (maxSteps := 1000000) only [VL, VM, ↓Gd_none, ↓Gd_t, ↓Gd_f, reduceIte, reduceCtorEq, Int.reduceLE, Int.reduceLT, Int.reduceToNat, Int.reduceNeg, Nat.reduceLT, Nat.reduceEqDiff, Nat.reduceAdd, Nat.reduceSub, Nat.reduceMul, Nat.reduceLeDiff, DH_app hd, DH_len, DH_len0, DH_get hd, DH_get0 hd, DH_set hd, DH_set0 hd, DH_setd, DH_die hd]
    apply call_eq (f := 19) (fn := Try.f19) (by kernel_rfl) (by rfl)
    · exact best_vm x _ Fx
    rw [show bestR x = pusV (bestL x) from if_pos hbx, hbx]
    simp (maxSteps := 1000000) only [VL, VM, ↓Gd_none, ↓Gd_t, ↓Gd_f, reduceIte, reduceCtorEq, Int.reduceLE, Int.reduceLT, Int.reduceToNat, Int.reduceNeg, Nat.reduceLT, Nat.reduceEqDiff, Nat.reduceAdd, Nat.reduceSub, Nat.reduceMul, Nat.reduceLeDiff, DH_app hd, DH_len, DH_len0, DH_get hd, DH_get0 hd, DH_set hd, DH_set0 hd, DH_setd, DH_die hd]
    ((repeat refine W_seq ?_); refine W_region0 T_ok ?_)
    simp (maxSteps := 1000000) only [VL, VM, ↓Gd_none, ↓Gd_t, ↓Gd_f, reduceIte, reduceCtorEq, Int.reduceLE, Int.reduceLT, Int.reduceToNat, Int.reduceNeg, Nat.reduceLT, Nat.reduceEqDiff, Nat.reduceAdd, Nat.reduceSub, Nat.reduceMul, Nat.reduceLeDiff, DH_app hd, DH_len, DH_len0, DH_get hd, DH_get0 hd, DH_set hd, DH_set0 hd, DH_setd, DH_die hd]
    apply call_eq (f := 34) (fn := Try.f34) (by kernel_rfl) (by rfl)
    · exact Earns_vm h (bestL h) _ F (by have := inA_len bA; omega)
    rw [show earnsR h (bestL h) = rentOf h (bestL h) from if_pos (inA_lay bA hv), inA_lay bA hv]
    simp (maxSteps := 1000000) only [VL, VM, ↓Gd_none, ↓Gd_t, ↓Gd_f, reduceIte, reduceCtorEq, Int.reduceLE, Int.reduceLT, Int.reduceToNat, Int.reduceNeg, Nat.reduceLT, Nat.reduceEqDiff, Nat.reduceAdd, Nat.reduceSub, Nat.reduceMul, Nat.reduceLeDiff, DH_app hd, DH_len, DH_len0, DH_get hd, DH_get0 hd, DH_set hd, DH_set0 hd, DH_setd, DH_die hd]
    ((repeat refine W_seq ?_); refine W_region0 T_ok ?_)
    simp (maxSteps := 1000000) only [VL, VM, ↓Gd_none, ↓Gd_t, ↓Gd_f, reduceIte, reduceCtorEq, Int.reduceLE, Int.reduceLT, Int.reduceToNat, Int.reduceNeg, Nat.reduceLT, Nat.reduceEqDiff, Nat.reduceAdd, Nat.reduceSub, Nat.reduceMul, Nat.reduceLeDiff, DH_app hd, DH_len, DH_len0, DH_get hd, DH_get0 hd, DH_set hd, DH_set0 hd, DH_setd, DH_die hd]
    apply call_eq (f := 34) (fn := Try.f34) (by kernel_rfl) (by rfl)
    · exact Earns_vm x (bestL x) _ Fx (by have := inA_len bX; omega)
    rw [show earnsR x (bestL x) = rentOf x (bestL x) from if_pos (inA_lay bX hvx), inA_lay bX hvx]
    simp (maxSteps := 1000000) only [VL, VM, ↓Gd_none, ↓Gd_t, ↓Gd_f, reduceIte, reduceCtorEq, Int.reduceLE, Int.reduceLT, Int.reduceToNat, Int.reduceNeg, Nat.reduceLT, Nat.reduceEqDiff, Nat.reduceAdd, Nat.reduceSub, Nat.reduceMul, Nat.reduceLeDiff, DH_app hd, DH_len, DH_len0, DH_get hd, DH_get0 hd, DH_set hd, DH_set0 hd, DH_setd, DH_die hd]
    ((repeat refine W_seq ?_); refine W_region0 T_ok ?_)
    simp (maxSteps := 1000000) only [VL, VM, ↓Gd_none, ↓Gd_t, ↓Gd_f, reduceIte, reduceCtorEq, Int.reduceLE, Int.reduceLT, Int.reduceToNat, Int.reduceNeg, Nat.reduceLT, Nat.reduceEqDiff, Nat.reduceAdd, Nat.reduceSub, Nat.reduceMul, Nat.reduceLeDiff, DH_app hd, DH_len, DH_len0, DH_get hd, DH_get0 hd, DH_set hd, DH_set0 hd, DH_setd, DH_die hd, eq_true hle, eq_self, decide_true, Bool.not_true]
    apply call_eq (f := 15) (fn := Try.f15) (by kernel_rfl) (by rfl)
    · exact awake _
    simp (maxSteps := 1000000) only [VL, VM, ↓Gd_none, ↓Gd_t, ↓Gd_f, reduceIte, reduceCtorEq, Int.reduceLE, Int.reduceLT, Int.reduceToNat, Int.reduceNeg, Nat.reduceLT, Nat.reduceEqDiff, Nat.reduceAdd, Nat.reduceSub, Nat.reduceMul, Nat.reduceLeDiff, DH_app hd, DH_len, DH_len0, DH_get hd, DH_get0 hd, DH_set hd, DH_set0 hd, DH_setd, DH_die hd]
    rw [tail]
    obtain ⟨Z, rfl, hZ⟩ := hXY
    (repeat refine W_seq ?_)
    refine W_ret ?_
    try simp only [thenQ, blockQ]
    exact ⟨.inr rfl, rfl, ⟨Z, rfl, hZ⟩, M.H, _, rfl, rfl, [vb true], rfl, vb true, rfl, by simp [refs], rfl, rfl⟩
end Go.Proofs.Ytijcmgfblpokhaa.Vm

/- VaultStronger: for every list of numbers the law answers true, and the numbers read afterwards as before. (Vm) -/
namespace Go.Proofs.Ytijcmgfblpokhaa.Vm
open Go Go.Proofs Go.ChangeShapes Go.WideShapes Go.ChangeAt Go.RowKit
set_option maxRecDepth 100000 in
theorem stronger_lifted (os : Os) (started : os.Started) (H : Type) (enc : TypeId × Value → H) :
    ReturnsInHanded {} Try.checked os 9 .any (Rows.vaultStrongerSpec.pre6 enc Try.prog Try.f9 Rows.vaultStrongerRow.domain false) (Rows.vaultStrongerSpec.post enc Try.prog Try.f9 false true false false) := by
  refine returnsInHanded_of_change (C := Try.checked) law_own started (by kernel_rfl) Try.func9
    (ChangeSpec.witness6 (enc := enc) (C := Try.checked) false ⟨#[], #[.slice none 0 0], []⟩ 8 (by kernel_rfl) (by kernel_rfl) (by kernel_rfl) (by kernel_rfl)) ?_
  intro W base args ds gs before hval hW hcnd _
  exact ints_contract rfl (fun d => ⟨rfl, rfl, rfl⟩) rfl rfl (fun xs hl => stronger_law_v awake_v xs ⟨[], []⟩ hl) hval hW
theorem stronger_holds : Rows.VaultStrongerSaid :=
  OpenClaim.holds_of_wide 9 Try.f9 rfl rfl rfl rfl rfl rfl rfl ⟨rfl, rfl, rfl, rfl, rfl⟩ rfl rfl rfl rfl rfl (by kernel_rfl) Try.func9 (by kernel_rfl)
    (of_decide_eq_true (by kernel_rfl)) (by unfold Func.isWrapper; first | (rw [if_pos (by decide +kernel)]; kernel_rfl) | (rw [if_neg (by decide +kernel)]; exact ⟨rfl, rfl⟩))
    (fun os started H enc _ => stronger_lifted os started H enc)
end Go.Proofs.Ytijcmgfblpokhaa.Vm
namespace Go.Proofs.Ytijcmgfblpokhaa
theorem vaultStronger_proved : Rows.VaultStrongerSaid := Vm.stronger_holds
end Go.Proofs.Ytijcmgfblpokhaa
