/- A part of the proofs about the chapter of the vaults; it states no condition of its own. -/
import Derived.Test.YtominlgikchnmaaGreatDoorB23
import Derived.Test.YtominlgikchnmaaGreatDoorB24
set_option linter.unusedVariables false
set_option linter.unusedSimpArgs false
/- Halls made of numbers, on values. (Vm) -/
namespace Go.Proofs.YtominlgikchnmaaGreatDoor.Vm
open Go Go.Proofs
attribute [local irreducible] castF castU fromF fromU oneF oneU
structure HallA where
  i : Nat
  u : Int
  ws : List Pl
  ss : List Pl
structure HallB where
  u : Int
  bs : List Int
structure HallK where
  u : Int
  ks : List Ki
  junk : List VObj
  X : List (Nat × Nat)
structure HallW where
  u : Int
  aw : List Int
set_option maxHeartbeats 8000000 in
theorem hallOf_v {H0 : List VObj} {d : Nat} (hd : d < H0.length) (u : Int) (lg : List (Nat × Nat)) (W D N : Int) (hW : 1 ≤ W ∧ W ≤ 6) (hD : 1 ≤ D ∧ D ≤ 4) (hN : 1 ≤ N ∧ N ≤ 6) :
    VC Tryz.prog 7 [.ptr d 0, vi W, vi D, vi N] ⟨DH H0 d u [], lg⟩ (fun r M' => ∃ (h : Ha) (u' : Int) (wd dp : Nat), M' = ⟨DH H0 d u' [], lg⟩ ∧ r = hallV h ∧ HGood wd dp h ∧ (wd : Int) ≤ W ∧ (dp : Int) ≤ D ∧ (h.kinds.length : Int) ≤ N) := by
  have rw1 := fromF_range (u := u) (lo := 1) (hi := W) (by omega)
  have rd1 := fromF_range (u := fromU u 1 W) (lo := 1) (hi := D) (by omega)
  refine VC_own' T_ok (f := 7) (fn := Tryz.f7) (by kernel_rfl) rfl Tryz.ntmps7 (by rfl) (by rfl) ?_
  ((repeat refine W_seq ?_); refine W_region0 T_ok ?_)
  simp (maxSteps := 1000000) only [VL, VM, ↓Gd_none, ↓Gd_t, ↓Gd_f, reduceIte, reduceCtorEq, Int.reduceLE, Int.reduceLT, Int.reduceToNat, Int.reduceNeg, Nat.reduceLT, Nat.reduceEqDiff, Nat.reduceAdd, Nat.reduceSub, Nat.reduceMul, Nat.reduceLeDiff, DH_app hd, DH_len, DH_len0, DH_get hd, DH_get0 hd, DH_set hd, DH_set0 hd, DH_setd, DH_die hd]
  ((repeat refine W_seq ?_); refine W_region0 T_ok ?_)
  simp (maxSteps := 1000000) only [VL, VM, ↓Gd_none, ↓Gd_t, ↓Gd_f, reduceIte, reduceCtorEq, Int.reduceLE, Int.reduceLT, Int.reduceToNat, Int.reduceNeg, Nat.reduceLT, Nat.reduceEqDiff, Nat.reduceAdd, Nat.reduceSub, Nat.reduceMul, Nat.reduceLeDiff]
  apply call_eq (f := 24) (fn := Tryz.f24) (by kernel_rfl) (by rfl)
  · exact from_c hd u 1 W lg (by omega) (by omega) (by omega) (by omega)
  simp (maxSteps := 1000000) only [VL, VM, ↓Gd_none, ↓Gd_t, ↓Gd_f, reduceIte, reduceCtorEq, Int.reduceLE, Int.reduceLT, Int.reduceToNat, Int.reduceNeg, Nat.reduceLT, Nat.reduceEqDiff, Nat.reduceAdd, Nat.reduceSub, Nat.reduceMul, Nat.reduceLeDiff]
  apply call_eq (f := 24) (fn := Tryz.f24) (by kernel_rfl) (by rfl)
  · exact from_c hd (fromU u 1 W) 1 D lg (by omega) (by omega) (by omega) (by omega)
  generalize hu1 : fromU (fromU u 1 W) 1 D = u1
  generalize fromF u 1 W = w at rw1
  generalize fromF (fromU u 1 W) 1 D = dd at rd1
  obtain ⟨wd, rfl⟩ : ∃ m : Nat, w = (m : Int) := ⟨w.toNat, by omega⟩
  obtain ⟨dp, rfl⟩ : ∃ m : Nat, dd = (m : Int) := ⟨dd.toNat, by omega⟩
  have hwd : 1 ≤ wd ∧ wd ≤ 6 := by omega
  have hdp : 1 ≤ dp ∧ dp ≤ 4 := by omega
  have hwW : (wd : Int) ≤ W := by omega
  have hdD : (dp : Int) ≤ D := by omega
  clear rw1 rd1
  simp (maxSteps := 1000000) only [VL, VM, ↓Gd_none, ↓Gd_t, ↓Gd_f, reduceIte, reduceCtorEq, Int.reduceLE, Int.reduceLT, Int.reduceToNat, Int.reduceNeg, Nat.reduceLT, Nat.reduceEqDiff, Nat.reduceAdd, Nat.reduceSub, Nat.reduceMul, Nat.reduceLeDiff, DH_app hd, DH_len, DH_len0, DH_get hd, DH_get0 hd, DH_set hd, DH_set0 hd, DH_setd, DH_die hd]
  refine W_ghost (id := H0.length + 1) (off := 2) (k := 2) (k0 := 0) (by rw [DH_get hd]; rfl) rfl ?_
  simp (maxSteps := 1000000) only [VL, VM, ↓Gd_none, ↓Gd_t, ↓Gd_f, reduceIte, reduceCtorEq, Int.reduceLE, Int.reduceLT, Int.reduceToNat, Int.reduceNeg, Nat.reduceLT, Nat.reduceEqDiff, Nat.reduceAdd, Nat.reduceSub, Nat.reduceMul, Nat.reduceLeDiff, DH_app hd, DH_len, DH_len0, DH_get hd, DH_get0 hd, DH_set hd, DH_set0 hd, DH_setd, DH_die hd]
  refine W_ghost (id := H0.length + 1) (off := 3) (k := 2) (k0 := 0) (by rw [DH_get hd]; rfl) rfl ?_
  simp (maxSteps := 1000000) only [VL, VM, ↓Gd_none, ↓Gd_t, ↓Gd_f, reduceIte, reduceCtorEq, Int.reduceLE, Int.reduceLT, Int.reduceToNat, Int.reduceNeg, Nat.reduceLT, Nat.reduceEqDiff, Nat.reduceAdd, Nat.reduceSub, Nat.reduceMul, Nat.reduceLeDiff, DH_app hd, DH_len, DH_len0, DH_get hd, DH_get0 hd, DH_set hd, DH_set0 hd, DH_setd, DH_die hd]
  refine W_ghost (id := H0.length + 1) (off := 6) (k := 1) (k0 := 0) (by rw [DH_get hd]; rfl) rfl ?_
  simp (maxSteps := 1000000) only [VL, VM, ↓Gd_none, ↓Gd_t, ↓Gd_f, reduceIte, reduceCtorEq, Int.reduceLE, Int.reduceLT, Int.reduceToNat, Int.reduceNeg, Nat.reduceLT, Nat.reduceEqDiff, Nat.reduceAdd, Nat.reduceSub, Nat.reduceMul, Nat.reduceLeDiff, DH_app hd, DH_len, DH_len0, DH_get hd, DH_get0 hd, DH_set hd, DH_set0 hd, DH_setd, DH_die hd]
  refine W_ghost (id := H0.length + 1) (off := 7) (k := 6) (k0 := 0) (by rw [DH_get hd]; rfl) rfl ?_
  simp (maxSteps := 1000000) only [VL, VM, ↓Gd_none, ↓Gd_t, ↓Gd_f, reduceIte, reduceCtorEq, Int.reduceLE, Int.reduceLT, Int.reduceToNat, Int.reduceNeg, Nat.reduceLT, Nat.reduceEqDiff, Nat.reduceAdd, Nat.reduceSub, Nat.reduceMul, Nat.reduceLeDiff, DH_app hd, DH_len, DH_len0, DH_get hd, DH_get0 hd, DH_set hd, DH_set0 hd, DH_setd, DH_die hd]
  obtain ⟨n, hn⟩ : ∃ n, H0.length = n := ⟨_, rfl⟩
  rw [hn] at hd ⊢
  obtain ⟨lgA, hlg⟩ : ∃ lgA, lgA = lg ++ [(n + 1, n + 2), (n + 1, n + 3), (n + 1, n + 4), (n + 1, n + 5)] := ⟨_, rfl⟩
  rw [← hlg]
  have A2 : addLg (n + 1) [n + 2] lgA = lgA := addLg_has (by rw [hlg]; simp)
  have A3 : addLg (n + 1) [n + 3] lgA = lgA := addLg_has (by rw [hlg]; simp)
  have A4 : addLg (n + 1) [n + 4] lgA = lgA := addLg_has (by rw [hlg]; simp)
  have A5 : ∀ X, addLg (n + 1) [n + 5] (lgA ++ X) = lgA ++ X := fun X => addLg_has (by rw [hlg]; simp)
  have dg : ∀ u L k, (DH H0 d u L)[n + k]? = L[k]? := fun u L k => by rw [← hn]; exact DH_get (hn ▸ hd) k
  have dg0 : ∀ u L, (DH H0 d u L)[n]? = L[0]? := fun u L => by rw [← hn]; exact DH_get0 (hn ▸ hd)
  have ds : ∀ u L k o, (DH H0 d u L).set (n + k) o = DH H0 d u (L.set k o) := fun u L k o => by rw [← hn]; exact DH_set (hn ▸ hd) k o
  have ds0 : ∀ u L o, (DH H0 d u L).set n o = DH H0 d u (L.set 0 o) := fun u L o => by rw [← hn]; exact DH_set0 (hn ▸ hd) o
  have dl : ∀ u L, (DH H0 d u L).length = n + L.length := fun u L => by rw [← hn]; exact DH_len
  have da : ∀ u L X, DH H0 d u L ++ X = DH H0 d u (L ++ X) := fun u L X => DH_app (hn ▸ hd) X
  have hd' : d < H0.length := by rw [hn]; exact hd
  have rx := fromF_range (u := u1) (lo := 1) (hi := (wd : Int)) (by omega)
  have ry := fromF_range (u := fromU u1 1 wd) (lo := 1) (hi := (dp : Int)) (by omega)
  (repeat refine W_seq ?_)
  refine W_drawP T_ok [] (by kernel_rfl) (by kernel_rfl) ?_
  generalize hi : mkPlan _ = infs
  cbv at hi
  subst hi
  simp (maxSteps := 1000000) only [VL, VM, ↓Gd_none, ↓Gd_t, ↓Gd_f, reduceIte, reduceCtorEq, Int.reduceLE, Int.reduceLT, Int.reduceToNat, Int.reduceNeg, Nat.reduceLT, Nat.reduceEqDiff, Nat.reduceAdd, Nat.reduceSub, Nat.reduceMul, Nat.reduceLeDiff, dg, dg0, ds, ds0, dl, da]
  apply call_d (f := 24) (fn := Tryz.f24) (by kernel_rfl) (by rfl)
  · exact from_c hd' u1 1 wd lgA (by omega) (by omega) (by omega) (by omega)
  simp (maxSteps := 1000000) only [VL, VM, ↓Gd_none, ↓Gd_t, ↓Gd_f, reduceIte, reduceCtorEq, Int.reduceLE, Int.reduceLT, Int.reduceToNat, Int.reduceNeg, Nat.reduceLT, Nat.reduceEqDiff, Nat.reduceAdd, Nat.reduceSub, Nat.reduceMul, Nat.reduceLeDiff, dg, dg0, ds, ds0, dl, da]
  apply call_d (f := 24) (fn := Tryz.f24) (by kernel_rfl) (by rfl)
  · exact from_c hd' (fromU u1 1 wd) 1 dp lgA (by omega) (by omega) (by omega) (by omega)
  generalize hu2 : fromU (fromU u1 1 wd) 1 dp = u2
  generalize fromF u1 1 wd = bx at rx
  generalize fromF (fromU u1 1 wd) 1 dp = by_ at ry
  replace rx : 1 ≤ bx ∧ bx ≤ max 1 (wd : Int) := rx
  replace ry : 1 ≤ by_ ∧ by_ ≤ max 1 (dp : Int) := ry
  replace hwW : (wd : Int) ≤ W := hwW
  replace hdD : (dp : Int) ≤ D := hdD
  have hbx : 1 ≤ bx ∧ bx ≤ (wd : Int) := by omega
  have hby : 1 ≤ by_ ∧ by_ ≤ (dp : Int) := by omega
  clear rx ry
  simp (maxSteps := 1000000) only [VL, VM, ↓Gd_none, ↓Gd_t, ↓Gd_f, reduceIte, reduceCtorEq, Int.reduceLE, Int.reduceLT, Int.reduceToNat, Int.reduceNeg, Nat.reduceLT, Nat.reduceEqDiff, Nat.reduceAdd, Nat.reduceSub, Nat.reduceMul, Nat.reduceLeDiff, dg, dg0, ds, ds0, dl, da]
  ((repeat refine W_seq ?_); refine W_region0 T_ok ?_)
  simp (maxSteps := 1000000) only [VL, VM, ↓Gd_none, ↓Gd_t, ↓Gd_f, reduceIte, reduceCtorEq, Int.reduceLE, Int.reduceLT, Int.reduceToNat, Int.reduceNeg, Nat.reduceLT, Nat.reduceEqDiff, Nat.reduceAdd, Nat.reduceSub, Nat.reduceMul, Nat.reduceLeDiff, dg, dg0, ds, ds0, dl, da]
  apply call_eq (f := 25) (fn := Tryz.f25) (by kernel_rfl) (by rfl)
  · exact places_v ⟨wd, dp, [], [], ⟨bx, by_⟩, [], []⟩ wd dp _ rfl rfl (by omega) (by omega)
  simp (maxSteps := 1000000) only [VL, VM, ↓Gd_none, ↓Gd_t, ↓Gd_f, reduceIte, reduceCtorEq, Int.reduceLE, Int.reduceLT, Int.reduceToNat, Int.reduceNeg, Nat.reduceLT, Nat.reduceEqDiff, Nat.reduceAdd, Nat.reduceSub, Nat.reduceMul, Nat.reduceLeDiff]
  ((repeat refine W_seq ?_); refine W_region0 T_ok ?_)
  simp (maxSteps := 1000000) only [VL, VM, ↓Gd_none, ↓Gd_t, ↓Gd_f, reduceIte, reduceCtorEq, Int.reduceLE, Int.reduceLT, Int.reduceToNat, Int.reduceNeg, Nat.reduceLT, Nat.reduceEqDiff, Nat.reduceAdd, Nat.reduceSub, Nat.reduceMul, Nat.reduceLeDiff]
  have hnP : (rowsOf dp wd).length ≤ 24 := by
    rw [rowsOf_len]
    exact Nat.mul_le_mul (show dp ≤ 4 by omega) (show wd ≤ 6 by omega)
  ((repeat refine W_seq ?_); refine W_block ?_; (repeat refine W_seq ?_)); refine W_loopS (fun s : HallA => [(0, .ptr d 0), (3, vi N), (8, .ptr n 0), (9, .ptr (n + 1) 0), (10, plsV (rowsOf dp wd)), (11, vi s.i)]) (fun s => ⟨DH H0 d s.u [VObj.obj [vi 0, vi 0, .sf 0 [], .sf 0 [], vi 0, vi 0, .sf 0 [], .sf 0 []], VObj.obj [vi wd, vi dp, .so (n + 2) 2 (s.ws.map plP), .so (n + 3) 2 (s.ss.map plP), vi bx, vi by_, .so (n + 4) 1 [], .so (n + 5) 6 []], .clm s.ws.length 2, .clm s.ss.length 2, .clm 0 1, .clm 0 6], lgA⟩) (fun s => (rowsOf dp wd).length - s.i) (fun s => s.i ≤ (rowsOf dp wd).length ∧ s.ws.Sublist ((rowsOf dp wd).take s.i) ∧ s.ss.Sublist ((rowsOf dp wd).take s.i)) ⟨0, u2, [], []⟩ ⟨Nat.zero_le _, by simp, by simp⟩ ⟨rfl, rfl, rfl, rfl, rfl, rfl, trivial⟩ rfl ?_
  rintro ⟨i, v, ws, ss⟩ ⟨hi, hws, hss⟩
  simp only at hi hws hss
  have k1 : -9223372036854775808 ≤ (i : Int) + 1 ∧ (i : Int) + 1 < 9223372036854775808 := by omega
  have l1 := hws.length_le
  have l2 := hss.length_le
  rw [List.length_take] at l1 l2
  ((repeat refine W_seq ?_); refine W_region0 T_ok ?_)
  rcases Nat.lt_or_ge i (rowsOf dp wd).length with hlt | hge
  · have k2 : ((i : Int) < ((rowsOf dp wd).length : Int)) = True := eq_true (by omega)
    have hx : (rowsOf dp wd)[i]? = some (rowsOf dp wd)[i] := List.getElem?_eq_getElem hlt
    have hx' := map_at (f := plP) hx
    generalize hc : (rowsOf dp wd)[i] = c at hx hx'
    have q1 : ((ws.length + 1) * 16 ≤ 140737488355328) = True := eq_true (by omega)
    have q2 : ((ss.length + 1) * 16 ≤ 140737488355328) = True := eq_true (by omega)
    have htk : (rowsOf dp wd).take (i + 1) = (rowsOf dp wd).take i ++ [c] := by rw [List.take_add_one, hx]; rfl
    simp (maxSteps := 1000000) only [VL, VM, ↓Gd_none, ↓Gd_t, ↓Gd_f, reduceIte, reduceCtorEq, Int.reduceLE, Int.reduceLT, Int.reduceToNat, Int.reduceNeg, Nat.reduceLT, Nat.reduceEqDiff, Nat.reduceAdd, Nat.reduceSub, Nat.reduceMul, Nat.reduceLeDiff, k2]
    ((repeat refine W_seq ?_); refine W_cond (b := true) (by first | rfl | simp only [ev, get_cons, Nat.reduceEqDiff, if_true, if_false, reduceIte]) (fun _ => ?_) (fun h => by cases h))
    ((repeat refine W_seq ?_); refine W_skip ?_)
    simp (maxSteps := 1000000) only [VL, VM, ↓Gd_none, ↓Gd_t, ↓Gd_f, reduceIte, reduceCtorEq, Int.reduceLE, Int.reduceLT, Int.reduceToNat, Int.reduceNeg, Nat.reduceLT, Nat.reduceEqDiff, Nat.reduceAdd, Nat.reduceSub, Nat.reduceMul, Nat.reduceLeDiff]
    ((repeat refine W_seq ?_); refine W_block ?_)
    ((repeat refine W_seq ?_); refine W_region0 T_ok ?_)
    simp (maxSteps := 1000000) only [VL, VM, ↓Gd_none, ↓Gd_t, ↓Gd_f, reduceIte, reduceCtorEq, Int.reduceLE, Int.reduceLT, Int.reduceToNat, Int.reduceNeg, Nat.reduceLT, Nat.reduceEqDiff, Nat.reduceAdd, Nat.reduceSub, Nat.reduceMul, Nat.reduceLeDiff]
    apply call_eq (f := 26) (fn := Tryz.f26) (by kernel_rfl) (by rfl)
    · exact once_c hd' v 2 lgA (by omega)
    generalize hv2 : castU v 2 = v2
    have first : ∃ ws2 : List Pl, ws2 = (if onceF v 2 then ws ++ [c] else ws) := ⟨_, rfl⟩
    obtain ⟨ws2, hw2⟩ := first
    have hws2 : ws2.Sublist ((rowsOf dp wd).take (i + 1)) := by
      rw [hw2, htk]
      split
      · exact hws.append (List.Sublist.refl _)
      · exact hws.trans (List.sublist_append_left _ _)
    cases ho : onceF v 2
    all_goals
      rw [ho] at hw2
      simp only [Bool.false_eq_true, if_false, if_true] at hw2
      first
      | (have hw3 : ws = ws2 := hw2.symm
         rw [hw3]
         simp (maxSteps := 1000000) only [VL, VM, ↓Gd_none, ↓Gd_t, ↓Gd_f, reduceIte, reduceCtorEq, Int.reduceLE, Int.reduceLT, Int.reduceToNat, Int.reduceNeg, Nat.reduceLT, Nat.reduceEqDiff, Nat.reduceAdd, Nat.reduceSub, Nat.reduceMul, Nat.reduceLeDiff]
         ((repeat refine W_seq ?_); refine W_cond (b := false) (by first | rfl | simp only [ev, get_cons, Nat.reduceEqDiff, if_true, if_false, reduceIte]) (fun h => by cases h) (fun _ => ?_))
         ((repeat refine W_seq ?_); refine W_skip ?_)
         simp (maxSteps := 1000000) only [VL, VM, ↓Gd_none, ↓Gd_t, ↓Gd_f, reduceIte, reduceCtorEq, Int.reduceLE, Int.reduceLT, Int.reduceToNat, Int.reduceNeg, Nat.reduceLT, Nat.reduceEqDiff, Nat.reduceAdd, Nat.reduceSub, Nat.reduceMul, Nat.reduceLeDiff])
      | (simp (maxSteps := 1000000) only [VL, VM, ↓Gd_none, ↓Gd_t, ↓Gd_f, reduceIte, reduceCtorEq, Int.reduceLE, Int.reduceLT, Int.reduceToNat, Int.reduceNeg, Nat.reduceLT, Nat.reduceEqDiff, Nat.reduceAdd, Nat.reduceSub, Nat.reduceMul, Nat.reduceLeDiff]
         ((repeat refine W_seq ?_); refine W_cond (b := true) (by first | rfl | simp only [ev, get_cons, Nat.reduceEqDiff, if_true, if_false, reduceIte]) (fun _ => ?_) (fun h => by cases h))
         (repeat refine W_seq ?_)
         refine W_drawP T_ok [] (by kernel_rfl) (by kernel_rfl) ?_
         generalize hi : mkPlan _ = infs
         cbv at hi
         subst hi
         simp (maxSteps := 1000000) only [VL, VM, ↓Gd_none, ↓Gd_t, ↓Gd_f, reduceIte, reduceCtorEq, Int.reduceLE, Int.reduceLT, Int.reduceToNat, Int.reduceNeg, Nat.reduceLT, Nat.reduceEqDiff, Nat.reduceAdd, Nat.reduceSub, Nat.reduceMul, Nat.reduceLeDiff, dg, dg0, ds, ds0, dl, da, hx', q1, A2]
         have hm2 : ws.map plP ++ [[PV.int .i64 c.x, PV.int .i64 c.y]] = ws2.map plP := by rw [hw2]; simp
         have hl2 : ws.length + 1 = ws2.length := by rw [hw2]; simp
         rw [hm2, hl2])
      clear hw2
      ((repeat refine W_seq ?_); refine W_region0 T_ok ?_)
      simp (maxSteps := 1000000) only [VL, VM, ↓Gd_none, ↓Gd_t, ↓Gd_f, reduceIte, reduceCtorEq, Int.reduceLE, Int.reduceLT, Int.reduceToNat, Int.reduceNeg, Nat.reduceLT, Nat.reduceEqDiff, Nat.reduceAdd, Nat.reduceSub, Nat.reduceMul, Nat.reduceLeDiff]
      apply call_eq (f := 26) (fn := Tryz.f26) (by kernel_rfl) (by rfl)
      · exact once_c hd' v2 7 lgA (by omega)
      generalize hv3 : castU v2 7 = v3
      cases ho2 : onceF v2 7
      · simp (maxSteps := 1000000) only [VL, VM, ↓Gd_none, ↓Gd_t, ↓Gd_f, reduceIte, reduceCtorEq, Int.reduceLE, Int.reduceLT, Int.reduceToNat, Int.reduceNeg, Nat.reduceLT, Nat.reduceEqDiff, Nat.reduceAdd, Nat.reduceSub, Nat.reduceMul, Nat.reduceLeDiff]
        ((repeat refine W_seq ?_); refine W_cond (b := false) (by first | rfl | simp only [ev, get_cons, Nat.reduceEqDiff, if_true, if_false, reduceIte]) (fun h => by cases h) (fun _ => ?_))
        ((repeat refine W_seq ?_); refine W_skip ?_)
        simp (maxSteps := 1000000) only [VL, VM, ↓Gd_none, ↓Gd_t, ↓Gd_f, reduceIte, reduceCtorEq, Int.reduceLE, Int.reduceLT, Int.reduceToNat, Int.reduceNeg, Nat.reduceLT, Nat.reduceEqDiff, Nat.reduceAdd, Nat.reduceSub, Nat.reduceMul, Nat.reduceLeDiff]
        ((repeat refine W_seq ?_); refine W_region0 T_ok ?_)
        simp (maxSteps := 1000000) only [VL, VM, ↓Gd_none, ↓Gd_t, ↓Gd_f, reduceIte, reduceCtorEq, Int.reduceLE, Int.reduceLT, Int.reduceToNat, Int.reduceNeg, Nat.reduceLT, Nat.reduceEqDiff, Nat.reduceAdd, Nat.reduceSub, Nat.reduceMul, Nat.reduceLeDiff, k1]
        refine LoopK.mk ⟨i + 1, v3, ws2, ss⟩ (by simp only; omega) ⟨by simp only; omega, hws2, ?_⟩ ⟨rfl, rfl, rfl, rfl, rfl, rfl, trivial⟩ rfl
        simp only
        rw [htk]
        exact hss.trans (List.sublist_append_left _ _)
      · simp (maxSteps := 1000000) only [VL, VM, ↓Gd_none, ↓Gd_t, ↓Gd_f, reduceIte, reduceCtorEq, Int.reduceLE, Int.reduceLT, Int.reduceToNat, Int.reduceNeg, Nat.reduceLT, Nat.reduceEqDiff, Nat.reduceAdd, Nat.reduceSub, Nat.reduceMul, Nat.reduceLeDiff]
        ((repeat refine W_seq ?_); refine W_cond (b := true) (by first | rfl | simp only [ev, get_cons, Nat.reduceEqDiff, if_true, if_false, reduceIte]) (fun _ => ?_) (fun h => by cases h))
        (repeat refine W_seq ?_)
        refine W_drawP T_ok [] (by kernel_rfl) (by kernel_rfl) ?_
        generalize hi : mkPlan _ = infs
        cbv at hi
        subst hi
        simp (maxSteps := 1000000) only [VL, VM, ↓Gd_none, ↓Gd_t, ↓Gd_f, reduceIte, reduceCtorEq, Int.reduceLE, Int.reduceLT, Int.reduceToNat, Int.reduceNeg, Nat.reduceLT, Nat.reduceEqDiff, Nat.reduceAdd, Nat.reduceSub, Nat.reduceMul, Nat.reduceLeDiff, dg, dg0, ds, ds0, dl, da, hx', q2, A3]
        ((repeat refine W_seq ?_); refine W_region0 T_ok ?_)
        simp (maxSteps := 1000000) only [VL, VM, ↓Gd_none, ↓Gd_t, ↓Gd_f, reduceIte, reduceCtorEq, Int.reduceLE, Int.reduceLT, Int.reduceToNat, Int.reduceNeg, Nat.reduceLT, Nat.reduceEqDiff, Nat.reduceAdd, Nat.reduceSub, Nat.reduceMul, Nat.reduceLeDiff, k1]
        refine LoopK.mk ⟨i + 1, v3, ws2, ss ++ [c]⟩ (by simp only; omega) ⟨by simp only; omega, hws2, ?_⟩ ⟨rfl, rfl, rfl, rfl, rfl, rfl, trivial⟩ ?_
        · simp only
          rw [htk]
          exact hss.append (List.Sublist.refl _)
        · simp
  have k2 : ((i : Int) < ((rowsOf dp wd).length : Int)) = False := eq_false (by omega)
  obtain rfl : i = (rowsOf dp wd).length := by omega
  rw [List.take_length] at hws hss
  clear l1 l2 k1 hi hge hu1 hu2
  simp (maxSteps := 1000000) only [VL, VM, ↓Gd_none, ↓Gd_t, ↓Gd_f, reduceIte, reduceCtorEq, Int.reduceLE, Int.reduceLT, Int.reduceToNat, Int.reduceNeg, Nat.reduceLT, Nat.reduceEqDiff, Nat.reduceAdd, Nat.reduceSub, Nat.reduceMul, Nat.reduceLeDiff, k2]
  ((repeat refine W_seq ?_); refine W_cond (b := false) (by first | rfl | simp only [ev, get_cons, Nat.reduceEqDiff, if_true, if_false, reduceIte]) (fun h => by cases h) (fun _ => ?_))
  ((repeat refine W_seq ?_); refine W_exit ?_)
  simp (maxSteps := 1000000) only [VL, VM, ↓Gd_none, ↓Gd_t, ↓Gd_f, reduceIte, reduceCtorEq, Int.reduceLE, Int.reduceLT, Int.reduceToNat, Int.reduceNeg, Nat.reduceLT, Nat.reduceEqDiff, Nat.reduceAdd, Nat.reduceSub, Nat.reduceMul, Nat.reduceLeDiff]
  ((repeat refine W_seq ?_); refine W_region0 T_ok ?_)
  simp (maxSteps := 1000000) only [VL, VM, ↓Gd_none, ↓Gd_t, ↓Gd_f, reduceIte, reduceCtorEq, Int.reduceLE, Int.reduceLT, Int.reduceToNat, Int.reduceNeg, Nat.reduceLT, Nat.reduceEqDiff, Nat.reduceAdd, Nat.reduceSub, Nat.reduceMul, Nat.reduceLeDiff, dg, dg0, ds, ds0, dl, da]
  obtain ⟨nb, hnb⟩ : ∃ nb : Nat, (nb : Int) = baysOf ⟨wd, dp, ws, ss, ⟨bx, by_⟩, [], []⟩ ∧ nb ≤ 1000000 := ⟨(baysOf ⟨wd, dp, ws, ss, ⟨bx, by_⟩, [], []⟩).toNat, by
    have hS : Small ⟨wd, dp, ws, ss, ⟨bx, by_⟩, [], []⟩ := ⟨by simp only; omega, by simp only; omega, by simp only; omega, by simp only; omega, by simp only; omega, by simp only; omega, by simp only; omega, by simp only; omega⟩
    have hc := cols_le hS
    have hd2 := div_le (n := (dp : Int) + by_ - 1) (b := by_) (by omega) (by omega)
    have hm := mul_le hc.1 hd2.1 hc.2 (show ((dp : Int) + by_ - 1) / by_ ≤ 8 by omega)
    have h0 : 0 ≤ baysOf ⟨wd, dp, ws, ss, ⟨bx, by_⟩, [], []⟩ ∧ baysOf ⟨wd, dp, ws, ss, ⟨bx, by_⟩, [], []⟩ ≤ 1000000 := by
      unfold baysOf colsOf
      simp only at hm ⊢
      omega
    exact ⟨by omega, by omega⟩⟩
  obtain ⟨hnb, hnb2⟩ := hnb
  apply call_eq (f := 27) (fn := Tryz.f27) (by kernel_rfl) (by rfl)
  · exact bays_v ⟨wd, dp, ws, ss, ⟨bx, by_⟩, [], []⟩ _ ⟨by simp only; omega, by simp only; omega, by simp only; omega, by simp only; omega, by simp only; omega, by simp only; omega, by simp only; omega, by simp only; omega⟩
  rw [← hnb]
  simp (maxSteps := 1000000) only [VL, VM, ↓Gd_none, ↓Gd_t, ↓Gd_f, reduceIte, reduceCtorEq, Int.reduceLE, Int.reduceLT, Int.reduceToNat, Int.reduceNeg, Nat.reduceLT, Nat.reduceEqDiff, Nat.reduceAdd, Nat.reduceSub, Nat.reduceMul, Nat.reduceLeDiff]
  ((repeat refine W_seq ?_); refine W_block ?_; (repeat refine W_seq ?_)); refine W_loopS (fun s : HallB => [(0, .ptr d 0), (3, vi N), (8, .ptr n 0), (9, .ptr (n + 1) 0), (12, vi ((nb : Int) - s.bs.length))]) (fun s => ⟨DH H0 d s.u [VObj.obj [vi 0, vi 0, .sf 0 [], .sf 0 [], vi 0, vi 0, .sf 0 [], .sf 0 []], VObj.obj [vi wd, vi dp, .so (n + 2) 2 (ws.map plP), .so (n + 3) 2 (ss.map plP), vi bx, vi by_, .so (n + 4) 1 (s.bs.map intP), .so (n + 5) 6 []], .clm ws.length 2, .clm ss.length 2, .clm s.bs.length 1, .clm 0 6], lgA⟩) (fun s => nb - s.bs.length) (fun s => s.bs.length ≤ nb ∧ ∀ b ∈ s.bs, 0 ≤ b ∧ b ≤ 300) ⟨v, []⟩ ⟨Nat.zero_le _, by simp⟩ ⟨rfl, rfl, rfl, rfl, by simp [get_cons], trivial⟩ rfl ?_
  rintro ⟨v1, bs⟩ ⟨hbl, hbs⟩
  simp only at hbl hbs
  ((repeat refine W_seq ?_); refine W_region0 T_ok ?_)
  rcases Nat.lt_or_ge bs.length nb with hlt | hge
  · have k2 : ((0 : Int) < (nb : Int) - (bs.length : Int)) = True := eq_true (by omega)
    have k3 : -9223372036854775808 ≤ (nb : Int) - (bs.length : Int) - 1 ∧ (nb : Int) - (bs.length : Int) - 1 < 9223372036854775808 := by omega
    have q1 : ((bs.length + 1) * 8 ≤ 140737488355328) = True := eq_true (by omega)
    have c1 := castF_range (u := v1) (n := 40) (by omega)
    have c2 := castF_range (u := castU v1 40) (n := 120) (by omega)
    have ho := oneF_mem (u := castU (castU v1 40) 120) (xs := [castF v1 40, castF (castU v1 40) 120, 300]) (by simp) (by simp)
    simp (maxSteps := 1000000) only [VL, VM, ↓Gd_none, ↓Gd_t, ↓Gd_f, reduceIte, reduceCtorEq, Int.reduceLE, Int.reduceLT, Int.reduceToNat, Int.reduceNeg, Nat.reduceLT, Nat.reduceEqDiff, Nat.reduceAdd, Nat.reduceSub, Nat.reduceMul, Nat.reduceLeDiff, k2]
    ((repeat refine W_seq ?_); refine W_cond (b := true) (by first | rfl | simp only [ev, get_cons, Nat.reduceEqDiff, if_true, if_false, reduceIte]) (fun _ => ?_) (fun h => by cases h))
    ((repeat refine W_seq ?_); refine W_skip ?_)
    simp (maxSteps := 1000000) only [VL, VM, ↓Gd_none, ↓Gd_t, ↓Gd_f, reduceIte, reduceCtorEq, Int.reduceLE, Int.reduceLT, Int.reduceToNat, Int.reduceNeg, Nat.reduceLT, Nat.reduceEqDiff, Nat.reduceAdd, Nat.reduceSub, Nat.reduceMul, Nat.reduceLeDiff]
    ((repeat refine W_seq ?_); refine W_block ?_)
    (repeat refine W_seq ?_)
    refine W_drawP T_ok [] (by kernel_rfl) (by kernel_rfl) ?_
    generalize hi : mkPlan _ = infs
    cbv at hi
    subst hi
    simp (maxSteps := 1000000) only [VL, VM, ↓Gd_none, ↓Gd_t, ↓Gd_f, reduceIte, reduceCtorEq, Int.reduceLE, Int.reduceLT, Int.reduceToNat, Int.reduceNeg, Nat.reduceLT, Nat.reduceEqDiff, Nat.reduceAdd, Nat.reduceSub, Nat.reduceMul, Nat.reduceLeDiff, dg, dg0, ds, ds0, dl, da]
    apply call_d (f := 29) (fn := Tryz.f29) (by kernel_rfl) (by rfl)
    · exact cast_c hd' v1 40 lgA (by omega)
    simp (maxSteps := 1000000) only [VL, VM, ↓Gd_none, ↓Gd_t, ↓Gd_f, reduceIte, reduceCtorEq, Int.reduceLE, Int.reduceLT, Int.reduceToNat, Int.reduceNeg, Nat.reduceLT, Nat.reduceEqDiff, Nat.reduceAdd, Nat.reduceSub, Nat.reduceMul, Nat.reduceLeDiff, dg, dg0, ds, ds0, dl, da]
    apply call_d (f := 29) (fn := Tryz.f29) (by kernel_rfl) (by rfl)
    · exact cast_c hd' (castU v1 40) 120 lgA (by omega)
    simp (maxSteps := 1000000) only [VL, VM, ↓Gd_none, ↓Gd_t, ↓Gd_f, reduceIte, reduceCtorEq, Int.reduceLE, Int.reduceLT, Int.reduceToNat, Int.reduceNeg, Nat.reduceLT, Nat.reduceEqDiff, Nat.reduceAdd, Nat.reduceSub, Nat.reduceMul, Nat.reduceLeDiff, dg, dg0, ds, ds0, dl, da]
    apply call_d (f := 28) (fn := Tryz.f28) (by kernel_rfl) (by rfl)
    · exact one_c hd' (castU (castU v1 40) 120) [castF v1 40, castF (castU v1 40) 120, 300] lgA (by simp) (by simp)
    generalize castF v1 40 = y1 at *
    generalize castF (castU v1 40) 120 = y2 at *
    generalize castU (castU v1 40) 120 = v9 at *
    generalize hb9 : oneF v9 [y1, y2, 300] = b at *
    clear hb9
    generalize oneU v9 [y1, y2, 300] = v2
    simp (maxSteps := 1000000) only [VL, VM, ↓Gd_none, ↓Gd_t, ↓Gd_f, reduceIte, reduceCtorEq, Int.reduceLE, Int.reduceLT, Int.reduceToNat, Int.reduceNeg, Nat.reduceLT, Nat.reduceEqDiff, Nat.reduceAdd, Nat.reduceSub, Nat.reduceMul, Nat.reduceLeDiff, dg, dg0, ds, ds0, dl, da, q1, A4]
    ((repeat refine W_seq ?_); refine W_region0 T_ok ?_)
    simp (maxSteps := 1000000) only [VL, VM, ↓Gd_none, ↓Gd_t, ↓Gd_f, reduceIte, reduceCtorEq, Int.reduceLE, Int.reduceLT, Int.reduceToNat, Int.reduceNeg, Nat.reduceLT, Nat.reduceEqDiff, Nat.reduceAdd, Nat.reduceSub, Nat.reduceMul, Nat.reduceLeDiff, k3]
    refine LoopK.mk ⟨v2, bs ++ [b]⟩ (by simp; omega) ⟨by simp; omega, ?_⟩ ⟨rfl, rfl, rfl, rfl, ?_, trivial⟩ ?_
    · intro x hx
      rcases List.mem_append.1 hx with hx | hx
      · exact hbs x hx
      · rw [List.mem_singleton] at hx
        subst hx
        simp only [List.mem_cons, List.not_mem_nil, or_false] at ho
        rcases ho with ho | ho | ho <;> rw [ho] <;> omega
    · simp only [List.length_append, List.length_cons, List.length_nil]
      have e9 : (nb : Int) - (bs.length : Int) - 1 = (nb : Int) - ((bs.length + 1 : Nat) : Int) := by omega
      show vi ((nb : Int) - (bs.length : Int) - 1) = vi ((nb : Int) - ((bs.length + 1 : Nat) : Int))
      rw [e9]
    · simp
  have k2 : ((0 : Int) < (nb : Int) - (bs.length : Int)) = False := eq_false (by omega)
  simp (maxSteps := 1000000) only [VL, VM, ↓Gd_none, ↓Gd_t, ↓Gd_f, reduceIte, reduceCtorEq, Int.reduceLE, Int.reduceLT, Int.reduceToNat, Int.reduceNeg, Nat.reduceLT, Nat.reduceEqDiff, Nat.reduceAdd, Nat.reduceSub, Nat.reduceMul, Nat.reduceLeDiff, k2]
  ((repeat refine W_seq ?_); refine W_cond (b := false) (by first | rfl | simp only [ev, get_cons, Nat.reduceEqDiff, if_true, if_false, reduceIte]) (fun h => by cases h) (fun _ => ?_))
  ((repeat refine W_seq ?_); refine W_exit ?_)
  simp (maxSteps := 1000000) only [VL, VM, ↓Gd_none, ↓Gd_t, ↓Gd_f, reduceIte, reduceCtorEq, Int.reduceLE, Int.reduceLT, Int.reduceToNat, Int.reduceNeg, Nat.reduceLT, Nat.reduceEqDiff, Nat.reduceAdd, Nat.reduceSub, Nat.reduceMul, Nat.reduceLeDiff]
  ((repeat refine W_seq ?_); refine W_region0 T_ok ?_)
  simp (maxSteps := 1000000) only [VL, VM, ↓Gd_none, ↓Gd_t, ↓Gd_f, reduceIte, reduceCtorEq, Int.reduceLE, Int.reduceLT, Int.reduceToNat, Int.reduceNeg, Nat.reduceLT, Nat.reduceEqDiff, Nat.reduceAdd, Nat.reduceSub, Nat.reduceMul, Nat.reduceLeDiff]
  have rn := fromF_range (u := v1) (lo := 1) (hi := N) (by omega)
  apply call_eq (f := 24) (fn := Tryz.f24) (by kernel_rfl) (by rfl)
  · exact from_c hd' v1 1 N lgA (by omega) (by omega) (by omega) (by omega)
  generalize fromU v1 1 N = v2
  generalize fromF v1 1 N = kn at rn
  obtain ⟨nk, rfl⟩ : ∃ m : Nat, kn = (m : Int) := ⟨kn.toNat, by omega⟩
  have hnk : 1 ≤ nk ∧ nk ≤ 6 := by omega
  have hnkN : (nk : Int) ≤ N := by omega
  have hbe : bs.length = nb := by omega
  clear rn k2 hge
  simp (maxSteps := 1000000) only [VL, VM, ↓Gd_none, ↓Gd_t, ↓Gd_f, reduceIte, reduceCtorEq, Int.reduceLE, Int.reduceLT, Int.reduceToNat, Int.reduceNeg, Nat.reduceLT, Nat.reduceEqDiff, Nat.reduceAdd, Nat.reduceSub, Nat.reduceMul, Nat.reduceLeDiff]
  ((repeat refine W_seq ?_); refine W_region0 T_ok ?_)
  simp (maxSteps := 1000000) only [VL, VM, ↓Gd_none, ↓Gd_t, ↓Gd_f, reduceIte, reduceCtorEq, Int.reduceLE, Int.reduceLT, Int.reduceToNat, Int.reduceNeg, Nat.reduceLT, Nat.reduceEqDiff, Nat.reduceAdd, Nat.reduceSub, Nat.reduceMul, Nat.reduceLeDiff]
  ((repeat refine W_seq ?_); refine W_block ?_; (repeat refine W_seq ?_)); refine W_loopS (fun s : HallK => [(0, .ptr d 0), (3, vi N), (8, .ptr n 0), (9, .ptr (n + 1) 0), (13, vi nk), (14, vi s.ks.length)]) (fun s => ⟨DH H0 d s.u (VObj.obj [vi 0, vi 0, .sf 0 [], .sf 0 [], vi 0, vi 0, .sf 0 [], .sf 0 []] :: VObj.obj [vi wd, vi dp, .so (n + 2) 2 (ws.map plP), .so (n + 3) 2 (ss.map plP), vi bx, vi by_, .so (n + 4) 1 (bs.map intP), .so (n + 5) 6 (s.ks.map kiP)] :: .clm ws.length 2 :: .clm ss.length 2 :: .clm bs.length 1 :: .clm s.ks.length 6 :: s.junk), lgA ++ s.X⟩) (fun s => nk - s.ks.length) (fun s => s.ks.length ≤ nk ∧ (∀ k ∈ s.ks, KGood nk k) ∧ ∀ e ∈ s.X, n ≤ e.1) ⟨v2, [], [], []⟩ ⟨Nat.zero_le _, by simp, by simp⟩ ⟨rfl, rfl, rfl, rfl, rfl, rfl, trivial⟩ (by simp) ?_
  rintro ⟨v3, ks, junk, X⟩ ⟨hkl, hks, hX⟩
  simp only at hkl hks hX
  have k1 : -9223372036854775808 ≤ (ks.length : Int) + 1 ∧ (ks.length : Int) + 1 < 9223372036854775808 := by omega
  ((repeat refine W_seq ?_); refine W_region0 T_ok ?_)
  rcases Nat.lt_or_ge ks.length nk with hlt | hge
  · have k2 : ((ks.length : Int) < (nk : Int)) = True := eq_true (by omega)
    have ho := oneF_mem (u := v3) (xs := [5, 60]) (by simp) (by simp)
    simp (maxSteps := 1000000) only [VL, VM, ↓Gd_none, ↓Gd_t, ↓Gd_f, reduceIte, reduceCtorEq, Int.reduceLE, Int.reduceLT, Int.reduceToNat, Int.reduceNeg, Nat.reduceLT, Nat.reduceEqDiff, Nat.reduceAdd, Nat.reduceSub, Nat.reduceMul, Nat.reduceLeDiff, k2]
    ((repeat refine W_seq ?_); refine W_cond (b := true) (by first | rfl | simp only [ev, get_cons, Nat.reduceEqDiff, if_true, if_false, reduceIte]) (fun _ => ?_) (fun h => by cases h))
    ((repeat refine W_seq ?_); refine W_skip ?_)
    simp (maxSteps := 1000000) only [VL, VM, ↓Gd_none, ↓Gd_t, ↓Gd_f, reduceIte, reduceCtorEq, Int.reduceLE, Int.reduceLT, Int.reduceToNat, Int.reduceNeg, Nat.reduceLT, Nat.reduceEqDiff, Nat.reduceAdd, Nat.reduceSub, Nat.reduceMul, Nat.reduceLeDiff]
    ((repeat refine W_seq ?_); refine W_block ?_)
    ((repeat refine W_seq ?_); refine W_region0 T_ok ?_)
    simp (maxSteps := 1000000) only [VL, VM, ↓Gd_none, ↓Gd_t, ↓Gd_f, reduceIte, reduceCtorEq, Int.reduceLE, Int.reduceLT, Int.reduceToNat, Int.reduceNeg, Nat.reduceLT, Nat.reduceEqDiff, Nat.reduceAdd, Nat.reduceSub, Nat.reduceMul, Nat.reduceLeDiff]
    apply call_eq (f := 28) (fn := Tryz.f28) (by kernel_rfl) (by rfl)
    · exact one_c hd' v3 [5, 60] (lgA ++ X) (by simp) (by simp)
    generalize oneF v3 [5, 60] = top at *
    generalize oneU v3 [5, 60] = v4 at *
    have ho5 : 5 ≤ top ∧ top ≤ 60 := by
      simp only [List.mem_cons, List.not_mem_nil, or_false] at ho
      rcases ho with rfl | rfl <;> omega
    have hsp := span_range (u := v4) (lo := 0) (hi := top) (by omega) (by omega)
    simp (maxSteps := 1000000) only [VL, VM, ↓Gd_none, ↓Gd_t, ↓Gd_f, reduceIte, reduceCtorEq, Int.reduceLE, Int.reduceLT, Int.reduceToNat, Int.reduceNeg, Nat.reduceLT, Nat.reduceEqDiff, Nat.reduceAdd, Nat.reduceSub, Nat.reduceMul, Nat.reduceLeDiff]
    apply call_eq (f := 30) (fn := Tryz.f30) (by kernel_rfl) (by rfl)
    · exact span_c hd' v4 0 top (lgA ++ X) (by omega) (by omega) (by omega)
    generalize spanF v4 0 top = sp at *
    generalize spanU v4 0 top = v5 at *
    simp (maxSteps := 1000000) only [VL, VM, ↓Gd_none, ↓Gd_t, ↓Gd_f, reduceIte, reduceCtorEq, Int.reduceLE, Int.reduceLT, Int.reduceToNat, Int.reduceNeg, Nat.reduceLT, Nat.reduceEqDiff, Nat.reduceAdd, Nat.reduceSub, Nat.reduceMul, Nat.reduceLeDiff]
    apply call_eq (f := 26) (fn := Tryz.f26) (by kernel_rfl) (by rfl)
    · exact once_c hd' v5 3 (lgA ++ X) (by omega)
    generalize onceF v5 3 = wet
    generalize castU v5 3 = v6
    simp (maxSteps := 1000000) only [VL, VM, ↓Gd_none, ↓Gd_t, ↓Gd_f, reduceIte, reduceCtorEq, Int.reduceLE, Int.reduceLT, Int.reduceToNat, Int.reduceNeg, Nat.reduceLT, Nat.reduceEqDiff, Nat.reduceAdd, Nat.reduceSub, Nat.reduceMul, Nat.reduceLeDiff]
    have hr := castF_range (u := v6) (n := 50) (by omega)
    apply call_eq (f := 29) (fn := Tryz.f29) (by kernel_rfl) (by rfl)
    · exact cast_c hd' v6 50 (lgA ++ X) (by omega)
    generalize castF v6 50 = rent at *
    generalize castU v6 50 = v7
    simp (maxSteps := 1000000) only [VL, VM, ↓Gd_none, ↓Gd_t, ↓Gd_f, reduceIte, reduceCtorEq, Int.reduceLE, Int.reduceLT, Int.reduceToNat, Int.reduceNeg, Nat.reduceLT, Nat.reduceEqDiff, Nat.reduceAdd, Nat.reduceSub, Nat.reduceMul, Nat.reduceLeDiff]
    have hmo := fromF_range (u := v7) (lo := 1) (hi := 5) (by omega)
    apply call_eq (f := 24) (fn := Tryz.f24) (by kernel_rfl) (by rfl)
    · exact from_c hd' v7 1 5 (lgA ++ X) (by omega) (by omega) (by omega) (by omega)
    generalize fromF v7 1 5 = most at *
    generalize fromU v7 1 5 = v8
    simp (maxSteps := 1000000) only [VL, VM, ↓Gd_none, ↓Gd_t, ↓Gd_f, reduceIte, reduceCtorEq, Int.reduceLE, Int.reduceLT, Int.reduceToNat, Int.reduceNeg, Nat.reduceLT, Nat.reduceEqDiff, Nat.reduceAdd, Nat.reduceSub, Nat.reduceMul, Nat.reduceLeDiff, dg, dg0, ds, ds0, dl, da]
    refine W_ghost (id := n + (junk.length + 6)) (off := 3) (k := 1) (k0 := 0) (cs := [vi sp.lo, vi sp.hi, vb wet, .sf 0 [], vi rent, vi most]) (by rw [dg]; simp) rfl ?_
    simp (maxSteps := 1000000) only [VL, VM, ↓Gd_none, ↓Gd_t, ↓Gd_f, reduceIte, reduceCtorEq, Int.reduceLE, Int.reduceLT, Int.reduceToNat, Int.reduceNeg, Nat.reduceLT, Nat.reduceEqDiff, Nat.reduceAdd, Nat.reduceSub, Nat.reduceMul, Nat.reduceLeDiff, dg, dg0, ds, ds0, dl, da, List.getElem?_cons_succ]
    have A7 : addLg (n + (junk.length + 6)) [n + (junk.length + 7)] (lgA ++ (X ++ [(n + (junk.length + 6), n + (junk.length + 7))])) = lgA ++ (X ++ [(n + (junk.length + 6), n + (junk.length + 7))]) := addLg_has (by simp)
    have A5' := A5 (X ++ [(n + (junk.length + 6), n + (junk.length + 7))])
    have hX' : ∀ e ∈ X ++ [(n + (junk.length + 6), n + (junk.length + 7))], n ≤ e.1 := by
      intro e he
      rcases List.mem_append.1 he with he | he
      · exact hX e he
      · rw [List.mem_singleton] at he
        subst he
        simp only
        omega
    generalize hX2 : X ++ [(n + (junk.length + 6), n + (junk.length + 7))] = X2 at *
    ((repeat refine W_seq ?_); refine W_region0 T_ok ?_)
    simp (maxSteps := 1000000) only [VL, VM, ↓Gd_none, ↓Gd_t, ↓Gd_f, reduceIte, reduceCtorEq, Int.reduceLE, Int.reduceLT, Int.reduceToNat, Int.reduceNeg, Nat.reduceLT, Nat.reduceEqDiff, Nat.reduceAdd, Nat.reduceSub, Nat.reduceMul, Nat.reduceLeDiff]
    ((repeat refine W_seq ?_); refine W_block ?_; (repeat refine W_seq ?_)); refine W_loopS (fun s : HallW => [(0, .ptr d 0), (3, vi N), (8, .ptr n 0), (9, .ptr (n + 1) 0), (13, vi nk), (14, vi ks.length), (15, .ptr (n + (junk.length + 6)) 0), (16, vi s.aw.length)]) (fun s => ⟨DH H0 d s.u (VObj.obj [vi 0, vi 0, .sf 0 [], .sf 0 [], vi 0, vi 0, .sf 0 [], .sf 0 []] :: VObj.obj [vi wd, vi dp, .so (n + 2) 2 (ws.map plP), .so (n + 3) 2 (ss.map plP), vi bx, vi by_, .so (n + 4) 1 (bs.map intP), .so (n + 5) 6 (ks.map kiP)] :: .clm ws.length 2 :: .clm ss.length 2 :: .clm bs.length 1 :: .clm ks.length 6 :: (junk ++ [VObj.obj [vi sp.lo, vi sp.hi, vb wet, .so (n + (junk.length + 7)) 1 (s.aw.map intP), vi rent, vi most], .clm s.aw.length 1])), lgA ++ X2⟩) (fun s => nk - s.aw.length) (fun s => s.aw.length ≤ nk ∧ ∀ a ∈ s.aw, 0 ≤ a ∧ a ≤ 3) ⟨v8, []⟩ ⟨Nat.zero_le _, by simp⟩ ⟨rfl, rfl, rfl, rfl, rfl, rfl, rfl, rfl, trivial⟩ rfl ?_
    rintro ⟨v9, aw⟩ ⟨hal, haw⟩
    simp only at hal haw
    have j1 : -9223372036854775808 ≤ (aw.length : Int) + 1 ∧ (aw.length : Int) + 1 < 9223372036854775808 := by omega
    ((repeat refine W_seq ?_); refine W_region0 T_ok ?_)
    rcases Nat.lt_or_ge aw.length nk with hlt' | hge'
    · have j2 : ((aw.length : Int) < (nk : Int)) = True := eq_true (by omega)
      have q1 : ((aw.length + 1) * 8 ≤ 140737488355328) = True := eq_true (by omega)
      have hc4 := castF_range (u := v9) (n := 4) (by omega)
      simp (maxSteps := 1000000) only [VL, VM, ↓Gd_none, ↓Gd_t, ↓Gd_f, reduceIte, reduceCtorEq, Int.reduceLE, Int.reduceLT, Int.reduceToNat, Int.reduceNeg, Nat.reduceLT, Nat.reduceEqDiff, Nat.reduceAdd, Nat.reduceSub, Nat.reduceMul, Nat.reduceLeDiff, j2]
      ((repeat refine W_seq ?_); refine W_cond (b := true) (by first | rfl | simp only [ev, get_cons, Nat.reduceEqDiff, if_true, if_false, reduceIte]) (fun _ => ?_) (fun h => by cases h))
      ((repeat refine W_seq ?_); refine W_skip ?_)
      simp (maxSteps := 1000000) only [VL, VM, ↓Gd_none, ↓Gd_t, ↓Gd_f, reduceIte, reduceCtorEq, Int.reduceLE, Int.reduceLT, Int.reduceToNat, Int.reduceNeg, Nat.reduceLT, Nat.reduceEqDiff, Nat.reduceAdd, Nat.reduceSub, Nat.reduceMul, Nat.reduceLeDiff]
      ((repeat refine W_seq ?_); refine W_block ?_)
      (repeat refine W_seq ?_)
      refine W_drawP T_ok [] (by kernel_rfl) (by kernel_rfl) ?_
      generalize hi : mkPlan _ = infs
      cbv at hi
      subst hi
      simp (maxSteps := 1000000) only [VL, VM, ↓Gd_none, ↓Gd_t, ↓Gd_f, reduceIte, reduceCtorEq, Int.reduceLE, Int.reduceLT, Int.reduceToNat, Int.reduceNeg, Nat.reduceLT, Nat.reduceEqDiff, Nat.reduceAdd, Nat.reduceSub, Nat.reduceMul, Nat.reduceLeDiff, dg, dg0, ds, ds0, dl, da, List.getElem?_cons_succ]
      apply call_d (f := 29) (fn := Tryz.f29) (by kernel_rfl) (by rfl)
      · exact cast_c hd' v9 4 (lgA ++ X2) (by omega)
      generalize castF v9 4 = c4 at *
      generalize castU v9 4 = v10 at *
      simp (maxSteps := 1000000) only [VL, VM, ↓Gd_none, ↓Gd_t, ↓Gd_f, reduceIte, reduceCtorEq, Int.reduceLE, Int.reduceLT, Int.reduceToNat, Int.reduceNeg, Nat.reduceLT, Nat.reduceEqDiff, Nat.reduceAdd, Nat.reduceSub, Nat.reduceMul, Nat.reduceLeDiff, dg, dg0, ds, ds0, dl, da]
      have ho4 := oneF_mem (u := v10) (xs := [0, 0, c4]) (by simp) (by simp)
      apply call_d (f := 28) (fn := Tryz.f28) (by kernel_rfl) (by rfl)
      · exact one_c hd' v10 [0, 0, c4] (lgA ++ X2) (by simp) (by simp)
      generalize oneF v10 [0, 0, c4] = b4 at *
      generalize oneU v10 [0, 0, c4] = v11 at *
      simp (maxSteps := 1000000) only [VL, VM, ↓Gd_none, ↓Gd_t, ↓Gd_f, reduceIte, reduceCtorEq, Int.reduceLE, Int.reduceLT, Int.reduceToNat, Int.reduceNeg, Nat.reduceLT, Nat.reduceEqDiff, Nat.reduceAdd, Nat.reduceSub, Nat.reduceMul, Nat.reduceLeDiff, dg, dg0, ds, ds0, dl, da, q1, A7]
      ((repeat refine W_seq ?_); refine W_region0 T_ok ?_)
      simp (maxSteps := 1000000) only [VL, VM, ↓Gd_none, ↓Gd_t, ↓Gd_f, reduceIte, reduceCtorEq, Int.reduceLE, Int.reduceLT, Int.reduceToNat, Int.reduceNeg, Nat.reduceLT, Nat.reduceEqDiff, Nat.reduceAdd, Nat.reduceSub, Nat.reduceMul, Nat.reduceLeDiff, j1]
      refine LoopK.mk ⟨v11, aw ++ [b4]⟩ (by simp; omega) ⟨by simp; omega, ?_⟩ ⟨rfl, rfl, rfl, rfl, rfl, rfl, rfl, ?_, trivial⟩ ?_
      · intro x hx
        rcases List.mem_append.1 hx with hx | hx
        · exact haw x hx
        · rw [List.mem_singleton] at hx
          subst hx
          simp only [List.mem_cons, List.not_mem_nil, or_false] at ho4
          rcases ho4 with rfl | rfl | rfl <;> omega
      · simp [get_cons]
      · simp
    have j2 : ((aw.length : Int) < (nk : Int)) = False := eq_false (by omega)
    have hae : aw.length = nk := by omega
    have q6 : ((ks.length + 1) * 64 ≤ 140737488355328) = True := eq_true (by omega)
    simp (maxSteps := 1000000) only [VL, VM, ↓Gd_none, ↓Gd_t, ↓Gd_f, reduceIte, reduceCtorEq, Int.reduceLE, Int.reduceLT, Int.reduceToNat, Int.reduceNeg, Nat.reduceLT, Nat.reduceEqDiff, Nat.reduceAdd, Nat.reduceSub, Nat.reduceMul, Nat.reduceLeDiff, j2]
    ((repeat refine W_seq ?_); refine W_cond (b := false) (by first | rfl | simp only [ev, get_cons, Nat.reduceEqDiff, if_true, if_false, reduceIte]) (fun h => by cases h) (fun _ => ?_))
    ((repeat refine W_seq ?_); refine W_exit ?_)
    simp (maxSteps := 1000000) only [VL, VM, ↓Gd_none, ↓Gd_t, ↓Gd_f, reduceIte, reduceCtorEq, Int.reduceLE, Int.reduceLT, Int.reduceToNat, Int.reduceNeg, Nat.reduceLT, Nat.reduceEqDiff, Nat.reduceAdd, Nat.reduceSub, Nat.reduceMul, Nat.reduceLeDiff]
    ((repeat refine W_seq ?_); refine W_region0 T_ok ?_)
    simp (maxSteps := 1000000) only [VL, VM, ↓Gd_none, ↓Gd_t, ↓Gd_f, reduceIte, reduceCtorEq, Int.reduceLE, Int.reduceLT, Int.reduceToNat, Int.reduceNeg, Nat.reduceLT, Nat.reduceEqDiff, Nat.reduceAdd, Nat.reduceSub, Nat.reduceMul, Nat.reduceLeDiff, dg, dg0, ds, ds0, dl, da, q6, A5', List.getElem?_cons_succ]
    ((repeat refine W_seq ?_); refine W_region0 T_ok ?_)
    simp (maxSteps := 1000000) only [VL, VM, ↓Gd_none, ↓Gd_t, ↓Gd_f, reduceIte, reduceCtorEq, Int.reduceLE, Int.reduceLT, Int.reduceToNat, Int.reduceNeg, Nat.reduceLT, Nat.reduceEqDiff, Nat.reduceAdd, Nat.reduceSub, Nat.reduceMul, Nat.reduceLeDiff, k1]
    refine LoopK.mk ⟨v9, ks ++ [⟨sp.lo, sp.hi, wet, aw, rent, most⟩], junk ++ [VObj.obj [vi sp.lo, vi sp.hi, vb wet, .so (n + (junk.length + 7)) 1 (aw.map intP), vi rent, vi most], .clm aw.length 1], X2⟩ (by simp; omega) ⟨by simp; omega, ?_, hX'⟩ ⟨rfl, rfl, rfl, rfl, rfl, ?_, trivial⟩ ?_
    · intro k hk
      rcases List.mem_append.1 hk with hk | hk
      · exact hks k hk
      · rw [List.mem_singleton] at hk
        subst hk
        exact ⟨hsp.1, hsp.2.1, by simp only; omega, hae, haw, by simp only; omega, by simp only; omega⟩
    · simp [get_cons]
    · simp
  have k2 : ((ks.length : Int) < (nk : Int)) = False := eq_false (by omega)
  have hke : ks.length = nk := by omega
  simp (maxSteps := 1000000) only [VL, VM, ↓Gd_none, ↓Gd_t, ↓Gd_f, reduceIte, reduceCtorEq, Int.reduceLE, Int.reduceLT, Int.reduceToNat, Int.reduceNeg, Nat.reduceLT, Nat.reduceEqDiff, Nat.reduceAdd, Nat.reduceSub, Nat.reduceMul, Nat.reduceLeDiff, k2]
  ((repeat refine W_seq ?_); refine W_cond (b := false) (by first | rfl | simp only [ev, get_cons, Nat.reduceEqDiff, if_true, if_false, reduceIte]) (fun h => by cases h) (fun _ => ?_))
  ((repeat refine W_seq ?_); refine W_exit ?_)
  simp (maxSteps := 1000000) only [VL, VM, ↓Gd_none, ↓Gd_t, ↓Gd_f, reduceIte, reduceCtorEq, Int.reduceLE, Int.reduceLT, Int.reduceToNat, Int.reduceNeg, Nat.reduceLT, Nat.reduceEqDiff, Nat.reduceAdd, Nat.reduceSub, Nat.reduceMul, Nat.reduceLeDiff]
  ((repeat refine W_seq ?_); refine W_region0 T_ok ?_)
  simp (maxSteps := 1000000) only [VL, VM, ↓Gd_none, ↓Gd_t, ↓Gd_f, reduceIte, reduceCtorEq, Int.reduceLE, Int.reduceLT, Int.reduceToNat, Int.reduceNeg, Nat.reduceLT, Nat.reduceEqDiff, Nat.reduceAdd, Nat.reduceSub, Nat.reduceMul, Nat.reduceLeDiff, dg, dg0, ds, ds0, dl, da]
  (repeat refine W_seq ?_)
  refine W_ret ?_
  refine ⟨.inr rfl, rfl, ⟨[(n + 1, n + 2), (n + 1, n + 3), (n + 1, n + 4), (n + 1, n + 5)] ++ X, by rw [hlg]; simp, fun e he => ?_⟩, DH H0 d v3 [], _, DH_eq hd', by rw [DH_len, DH_len], [hallV ⟨wd, dp, ws, ss, ⟨bx, by_⟩, bs, ks⟩], ?_, hallV ⟨wd, dp, ws, ss, ⟨bx, by_⟩, bs, ks⟩, rfl, by simp [refs, refsL], ⟨wd, dp, ws, ss, ⟨bx, by_⟩, bs, ks⟩, v3, wd, dp, rfl, rfl, ?_, hwW, hdD, by simp only; rw [hke]; exact hnkN⟩
  · rw [DH_len]
    simp only [List.length_nil, Nat.add_zero]
    rw [hn]
    rcases List.mem_append.1 he with he | he
    · simp only [List.mem_cons, List.not_mem_nil, or_false] at he
      rcases he with rfl | rfl | rfl | rfl <;> simp
    · exact hX e he
  · simp [Tryz.f7, vresL, get_cons, vload, t_hall, dg0, nat_ble, strip1]
  · exact ⟨rfl, rfl, hwd, hdp, hws, hss, hbx, hby, by rw [← hbe] at hnb; exact hnb, hbs, by simp only; omega, by simp only; rw [hke]; exact hks⟩
end Go.Proofs.YtominlgikchnmaaGreatDoor.Vm

/- The law of ends, on values. (Vm) -/
namespace Go.Proofs.YtominlgikchnmaaGreatDoor.Vm
open Go Go.Proofs
theorem v_eqBool (a b : Bool) : vbin T .eql 4 (vb a) (vb b) = some (vb (a == b)) := by
  simp only [vbin, t_bool]
end Go.Proofs.YtominlgikchnmaaGreatDoor.Vm

/- Halls that are copied, on values. (Vm) -/
namespace Go.Proofs.YtominlgikchnmaaGreatDoor.Vm
open Go Go.Proofs
structure CpSt where
  i : Nat
  junk : List VObj
set_option maxRecDepth 100000 in
set_option maxHeartbeats 1000000 in
theorem sameHalls_v (h : Ha) (M : Mem) (F : Fin h) : VC Tryz.prog 14 [hallV h, hallV h] M (fun r M' => M' = M ∧ r = vb true) := by
  have fw := F.water
  have fs := F.shut
  have fb := F.bears
  have fk := F.kinds
  refine VC_own' T_ok (f := 14) (fn := Tryz.f14) (by kernel_rfl) rfl Tryz.ntmps14 (by rfl) (by rfl) ?_
  ((repeat refine W_seq ?_); refine W_region0 T_ok ?_)
  simp (maxSteps := 1000000) only [VL, VM, ↓Gd_none, ↓Gd_t, ↓Gd_f, reduceIte, reduceCtorEq, Int.reduceLE, Int.reduceLT, Int.reduceToNat, Int.reduceNeg, Nat.reduceLT, Nat.reduceEqDiff, Nat.reduceAdd, Nat.reduceSub, Nat.reduceMul, Nat.reduceLeDiff]
  ((repeat refine W_seq ?_); refine W_region0 T_ok ?_)
  simp (maxSteps := 1000000) only [VL, VM, ↓Gd_none, ↓Gd_t, ↓Gd_f, reduceIte, reduceCtorEq, Int.reduceLE, Int.reduceLT, Int.reduceToNat, Int.reduceNeg, Nat.reduceLT, Nat.reduceEqDiff, Nat.reduceAdd, Nat.reduceSub, Nat.reduceMul, Nat.reduceLeDiff, eq_self, decide_true]
  apply call_eq (f := 45) (fn := Tryz.f45) (by kernel_rfl) (by rfl)
  · exact sameCells_v h.water h.water _ fw fw
  simp (maxSteps := 1000000) only [VL, VM, ↓Gd_none, ↓Gd_t, ↓Gd_f, reduceIte, reduceCtorEq, Int.reduceLE, Int.reduceLT, Int.reduceToNat, Int.reduceNeg, Nat.reduceLT, Nat.reduceEqDiff, Nat.reduceAdd, Nat.reduceSub, Nat.reduceMul, Nat.reduceLeDiff, eq_self, decide_true]
  apply call_eq (f := 45) (fn := Tryz.f45) (by kernel_rfl) (by rfl)
  · exact sameCells_v h.shut h.shut _ fs fs
  simp (maxSteps := 1000000) only [VL, VM, ↓Gd_none, ↓Gd_t, ↓Gd_f, reduceIte, reduceCtorEq, Int.reduceLE, Int.reduceLT, Int.reduceToNat, Int.reduceNeg, Nat.reduceLT, Nat.reduceEqDiff, Nat.reduceAdd, Nat.reduceSub, Nat.reduceMul, Nat.reduceLeDiff, eq_self, decide_true, v_eqCell]
  apply call_eq (f := 46) (fn := Tryz.f46) (by kernel_rfl) (by rfl)
  · exact sameInts_v h.bears h.bears _ fb fb
  simp (maxSteps := 1000000) only [VL, VM, ↓Gd_none, ↓Gd_t, ↓Gd_f, reduceIte, reduceCtorEq, Int.reduceLE, Int.reduceLT, Int.reduceToNat, Int.reduceNeg, Nat.reduceLT, Nat.reduceEqDiff, Nat.reduceAdd, Nat.reduceSub, Nat.reduceMul, Nat.reduceLeDiff, eq_self, decide_true]
  ((repeat refine W_seq ?_); refine W_region0 T_ok ?_)
  simp (maxSteps := 1000000) only [VL, VM, ↓Gd_none, ↓Gd_t, ↓Gd_f, reduceIte, reduceCtorEq, Int.reduceLE, Int.reduceLT, Int.reduceToNat, Int.reduceNeg, Nat.reduceLT, Nat.reduceEqDiff, Nat.reduceAdd, Nat.reduceSub, Nat.reduceMul, Nat.reduceLeDiff]
  ((repeat refine W_seq ?_); refine W_block ?_; (repeat refine W_seq ?_)); refine W_loopS (fun s : CpSt => [(2, .ptr M.H.length 0), (3, .ptr (M.H.length + 1) 0), (5, vb true), (6, vi s.i)]) (fun s => ⟨M.H ++ (VObj.obj (hallC h) :: VObj.obj (hallC h) :: s.junk), M.lg⟩) (fun s => h.kinds.length - s.i) (fun s => s.i ≤ h.kinds.length) ⟨0, []⟩ (Nat.zero_le _) ⟨rfl, rfl, rfl, rfl, trivial⟩ rfl ?_
  rintro ⟨i, junk⟩ hi
  simp only at hi
  have k1 : -9223372036854775808 ≤ (i : Int) + 1 ∧ (i : Int) + 1 < 9223372036854775808 := by omega
  ((repeat refine W_seq ?_); refine W_region0 T_ok ?_)
  rcases Nat.lt_or_ge i h.kinds.length with hlt | hge
  · have k2 : ((i : Int) < (h.kinds.length : Int)) = True := eq_true (by omega)
    have hx : h.kinds[i]? = some h.kinds[i] := List.getElem?_eq_getElem hlt
    have hx' := map_at (f := kiP) hx
    have haw := F.aways _ (List.getElem_mem hlt)
    generalize h.kinds[i] = k at hx hx' haw
    simp (maxSteps := 1000000) only [VL, VM, ↓Gd_none, ↓Gd_t, ↓Gd_f, reduceIte, reduceCtorEq, Int.reduceLE, Int.reduceLT, Int.reduceToNat, Int.reduceNeg, Nat.reduceLT, Nat.reduceEqDiff, Nat.reduceAdd, Nat.reduceSub, Nat.reduceMul, Nat.reduceLeDiff, k2]
    ((repeat refine W_seq ?_); refine W_cond (b := true) (by first | rfl | simp only [ev, get_cons, Nat.reduceEqDiff, if_true, if_false, reduceIte]) (fun _ => ?_) (fun h => by cases h))
    ((repeat refine W_seq ?_); refine W_skip ?_)
    simp (maxSteps := 1000000) only [VL, VM, ↓Gd_none, ↓Gd_t, ↓Gd_f, reduceIte, reduceCtorEq, Int.reduceLE, Int.reduceLT, Int.reduceToNat, Int.reduceNeg, Nat.reduceLT, Nat.reduceEqDiff, Nat.reduceAdd, Nat.reduceSub, Nat.reduceMul, Nat.reduceLeDiff]
    ((repeat refine W_seq ?_); refine W_block ?_)
    (repeat refine W_seq ?_)
    refine W_drawP T_ok [VObj.obj [vi 0, vi 0, vb false, .sf 0 [], vi 0, vi 0], VObj.obj [vi 0, vi 0, vb false, .sf 0 [], vi 0, vi 0]] (by kernel_rfl) (by kernel_rfl) ?_
    generalize hi : mkPlan _ = infs
    cbv at hi
    subst hi
    simp (maxSteps := 1000000) only [VL, VM, ↓Gd_none, ↓Gd_t, ↓Gd_f, reduceIte, reduceCtorEq, Int.reduceLE, Int.reduceLT, Int.reduceToNat, Int.reduceNeg, Nat.reduceLT, Nat.reduceEqDiff, Nat.reduceAdd, Nat.reduceSub, Nat.reduceMul, Nat.reduceLeDiff, hx']
    have hsp : vbin T .eql 46 (.agg [vi k.lo, vi k.hi]) (.agg [vi k.lo, vi k.hi]) = some (vb true) := (v_eqSpan ⟨k.lo, k.hi⟩ ⟨k.lo, k.hi⟩).trans (by simp)
    have hbw : vbin T .eql 4 (vb k.water) (vb k.water) = some (vb true) := (v_eqBool _ _).trans (by simp)
    ((repeat refine W_seq ?_); refine W_region0 T_ok ?_)
    simp (maxSteps := 1000000) only [VL, VM, ↓Gd_none, ↓Gd_t, ↓Gd_f, reduceIte, reduceCtorEq, Int.reduceLE, Int.reduceLT, Int.reduceToNat, Int.reduceNeg, Nat.reduceLT, Nat.reduceEqDiff, Nat.reduceAdd, Nat.reduceSub, Nat.reduceMul, Nat.reduceLeDiff, eq_self, decide_true, hsp, hbw]
    apply call_eq (f := 46) (fn := Tryz.f46) (by kernel_rfl) (by rfl)
    · exact sameInts_v k.away k.away _ haw haw
    simp (maxSteps := 1000000) only [VL, VM, ↓Gd_none, ↓Gd_t, ↓Gd_f, reduceIte, reduceCtorEq, Int.reduceLE, Int.reduceLT, Int.reduceToNat, Int.reduceNeg, Nat.reduceLT, Nat.reduceEqDiff, Nat.reduceAdd, Nat.reduceSub, Nat.reduceMul, Nat.reduceLeDiff, eq_self, decide_true]
    ((repeat refine W_seq ?_); refine W_region0 T_ok ?_)
    simp (maxSteps := 1000000) only [VL, VM, ↓Gd_none, ↓Gd_t, ↓Gd_f, reduceIte, reduceCtorEq, Int.reduceLE, Int.reduceLT, Int.reduceToNat, Int.reduceNeg, Nat.reduceLT, Nat.reduceEqDiff, Nat.reduceAdd, Nat.reduceSub, Nat.reduceMul, Nat.reduceLeDiff, k1]
    refine LoopK.mk ⟨i + 1, junk ++ [VObj.obj [vi k.lo, vi k.hi, vb k.water, intsV k.away, vi k.rent, vi k.most], VObj.obj [vi k.lo, vi k.hi, vb k.water, intsV k.away, vi k.rent, vi k.most]]⟩ (by simp only; omega) (by simp only; omega) ⟨rfl, rfl, rfl, rfl, trivial⟩ rfl
  have k2 : ((i : Int) < (h.kinds.length : Int)) = False := eq_false (by omega)
  simp (maxSteps := 1000000) only [VL, VM, ↓Gd_none, ↓Gd_t, ↓Gd_f, reduceIte, reduceCtorEq, Int.reduceLE, Int.reduceLT, Int.reduceToNat, Int.reduceNeg, Nat.reduceLT, Nat.reduceEqDiff, Nat.reduceAdd, Nat.reduceSub, Nat.reduceMul, Nat.reduceLeDiff, k2]
  ((repeat refine W_seq ?_); refine W_cond (b := false) (by first | rfl | simp only [ev, get_cons, Nat.reduceEqDiff, if_true, if_false, reduceIte]) (fun h => by cases h) (fun _ => ?_))
  ((repeat refine W_seq ?_); refine W_exit ?_)
  simp (maxSteps := 1000000) only [VL, VM, ↓Gd_none, ↓Gd_t, ↓Gd_f, reduceIte, reduceCtorEq, Int.reduceLE, Int.reduceLT, Int.reduceToNat, Int.reduceNeg, Nat.reduceLT, Nat.reduceEqDiff, Nat.reduceAdd, Nat.reduceSub, Nat.reduceMul, Nat.reduceLeDiff]
  ((repeat refine W_seq ?_); refine W_region0 T_ok ?_)
  simp (maxSteps := 1000000) only [VL, VM, ↓Gd_none, ↓Gd_t, ↓Gd_f, reduceIte, reduceCtorEq, Int.reduceLE, Int.reduceLT, Int.reduceToNat, Int.reduceNeg, Nat.reduceLT, Nat.reduceEqDiff, Nat.reduceAdd, Nat.reduceSub, Nat.reduceMul, Nat.reduceLeDiff]
  (repeat refine W_seq ?_)
  refine W_ret ?_
  try simp only [thenQ, blockQ]
  refine own_ret1 rfl ?_ (by rfl)
  simp only [get_cons, frz, vtup, Nat.reduceEqDiff, if_true, if_false, reduceIte]
end Go.Proofs.YtominlgikchnmaaGreatDoor.Vm

/- Lists of halls and layouts, on values. (Vm) -/
namespace Go.Proofs.YtominlgikchnmaaGreatDoor.Vm
open Go Go.Proofs
end Go.Proofs.YtominlgikchnmaaGreatDoor.Vm
