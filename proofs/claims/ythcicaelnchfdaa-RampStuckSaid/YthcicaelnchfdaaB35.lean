/- A part of the proofs about the chapter of the ramps; it states no condition of its own. -/
import Derived.Test.YthcicaelnchfdaaB34
set_option linter.unusedVariables false
set_option linter.unusedSimpArgs false
open Int renaming reduceLE → zA, reduceLT → zB, reduceToNat → zC, reduceNeg → zD
open Nat renaming reduceLT → zE, reduceEqDiff → zF, reduceAdd → zG, reduceSub → zH, reduceMul → zI, reduceLeDiff → zJ
/- The law of carts that cannot be served together, on values. (Vm) -/
namespace Go.Proofs.Ythcicaelnchfdaa.Vm
open Go Go.Proofs
theorem stuckL_len {y : Ya} {l : List Int} (h : l ∈ stuckL y) : l.length ≤ y.carts.length := by
 unfold stuckL at h
 obtain ⟨m, hm, hl⟩ := List.mem_flatMap.1 h
 rw [List.mem_range'_1] at hm
 have := (choices_mem.1 hl).1
 omega
theorem mostL_len {y : Ya} {l : List Int} (h : l ∈ mostL y) : l.length ≤ y.carts.length := by
 unfold mostL at h
 obtain ⟨m, hm, hl⟩ := List.mem_flatMap.1 h
 have := (choices_mem.1 hl).1
 omega
theorem stuckT_len' {y : Ya} : (stuckT y).1.length ≤ y.carts.length := by
 unfold stuckT
 split
 ·split
  ·simp
  ·rename_i l hl
   exact stuckL_len (List.mem_of_find?_eq_some hl)
 ·simp
theorem mostT_len' {y : Ya} : (mostT y).1.length ≤ y.carts.length := by
 unfold mostT
 split
 ·split
  ·simp
  ·rename_i l hl
   exact mostL_len (List.mem_of_find?_eq_some hl)
 ·simp
theorem stuckT_len {y : Ya} (h : y.carts.length ≤ 1000000) : (stuckT y).1.length ≤ 1000000 := Nat.le_trans stuckT_len' h
theorem mostT_len {y : Ya} (h : y.carts.length ≤ 1000000) : (mostT y).1.length ≤ 1000000 := Nat.le_trans mostT_len' h
attribute [local irreducible] castF castU fromF fromU oneF oneU yardS
set_option maxHeartbeats 8000000 in
set_option maxRecDepth 100000 in
theorem stuck_law_v (y : Ya) (xs : List Int) (M : Mem) (hy : y.carts.length ≤ maxLen) (hl : xs.length ≤ maxLen) : VC Try.prog 4 [yardV y, intsV xs] M (fun r M' => M' = M ∧ r = vb true) := by
 refine VC_own' T_ok (f := 4) (fn := Try.f4) (by kernel_rfl) rfl Try.ntmps4 (by rfl) (by rfl) ?_
 ((repeat refine Ws ?_);refine Wr ?_)
 simp (maxSteps := 1000000) only [VL,VM,↓VG,reduceIte,reduceCtorEq,zA,zB,zC,zD,zE,zF,zG,zH,zI,zJ]
 by_cases hbig : vastB y = true ∨ (3 < y.carts.length ∧ yErr y = 0)
 ·(repeat refine Ws ?_)
  refine W_then [(2, .ptr M.H.length 0), (29, vb true)] ⟨M.H ++ [.obj (yardC y)], M.lg⟩ ?_ ?_
  ·((repeat refine Ws ?_);refine Wr ?_)
   simp (maxSteps := 1000000) only [VL,VM,↓VG,reduceIte,reduceCtorEq,zA,zB,zC,zD,zE,zF,zG,zH,zI,zJ]
   apply call_eq (f := 14) (fn := Try.f14) (by kernel_rfl) (by rfl)
   ·exact vast_v y _ hy
   cases hvast : vastB y with
   | true =>
    simp (maxSteps := 1000000) only [VL,VM,↓VG,reduceIte,reduceCtorEq,zA,zB,zC,zD,zE,zF,zG,zH,zI,zJ]
    exact ⟨rfl, rfl, trivial⟩
   | false =>
    obtain ⟨b1, b2, b3⟩ := not_vast hvast
    have h3 : 3 < y.carts.length ∧ yErr y = 0 := by
     rcases hbig with h | h
     ·rw [hvast] at h; cases h
     ·exact h
    have k1 : ((3 : Int) < (y.carts.length : Int)) = True := eq_true (by omega)
    simp (maxSteps := 1000000) only [VL,VM,↓VG,reduceIte,reduceCtorEq,zA,zB,zC,zD,zE,zF,zG,zH,zI,zJ, k1]
    apply call_eq (f := 15) (fn := Try.f15) (by kernel_rfl) (by rfl)
    ·exact rcheck_v y _ (by omega) (by omega) (fun c hc => by have := b3 c hc; omega)
    simp (maxSteps := 1000000) only [VL,VM,↓VG,reduceIte,reduceCtorEq,zA,zB,zC,zD,zE,zF,zG,zH,zI,zJ, h3.2]
    exact ⟨rfl, rfl, trivial⟩
  intro _ e' hS
  refine WCode.weak (e' := [(2, .ptr M.H.length 0), (29, vb true)]) ?_ (Sub.ok hS)
  ((repeat refine Ws ?_);refine Wt (by first|rfl|simp only [EV,zF,reduceIte]) ?_)
  ((repeat refine Ws ?_);refine Wr ?_)
  simp (maxSteps := 1000000) only [VL,VM,↓VG,reduceIte,reduceCtorEq,zA,zB,zC,zD,zE,zF,zG,zH,zI,zJ]
  apply call_eq (f := 16) (fn := Try.f16) (by kernel_rfl) (by rfl)
  ·exact awake_v _
  simp (maxSteps := 1000000) only [VL,VM,↓VG,reduceIte,reduceCtorEq,zA,zB,zC,zD,zE,zF,zG,zH,zI,zJ]
  (repeat refine Ws ?_)
  refine W_ret ?_
  try simp only [thenQ, blockQ]
  refine own_ret1 rfl ?_ (by rfl)
  simp only [get_cons, frz, vtup, Nat.reduceEqDiff, if_true, if_false, reduceIte]
 have hvast : vastB y = false := by
  cases h : vastB y with
  | true => exact absurd (.inl h) hbig
  | false => rfl
 have hsy : ShortY y := not_vast hvast
 obtain ⟨b1, b2, b3⟩ := hsy
 have b4 : ¬ (3 < y.carts.length ∧ yErr y = 0) := fun h => hbig (.inr h)
 (repeat refine Ws ?_)
 refine W_then [(1, intsV xs), (2, .ptr M.H.length 0), (29, vb false)] ⟨M.H ++ [.obj (yardC y)], M.lg⟩ ?_ ?_
 ·((repeat refine Ws ?_);refine Wr ?_)
  simp (maxSteps := 1000000) only [VL,VM,↓VG,reduceIte,reduceCtorEq,zA,zB,zC,zD,zE,zF,zG,zH,zI,zJ]
  apply call_eq (f := 14) (fn := Try.f14) (by kernel_rfl) (by rfl)
  ·exact vast_v y _ hy
  rw [hvast]
  by_cases h3 : 3 < y.carts.length
  ·have k1 : ((3 : Int) < (y.carts.length : Int)) = True := eq_true (by omega)
   have h4 : yErr y ≠ 0 := fun e => b4 ⟨h3, e⟩
   simp (maxSteps := 1000000) only [VL,VM,↓VG,reduceIte,reduceCtorEq,zA,zB,zC,zD,zE,zF,zG,zH,zI,zJ, k1]
   apply call_eq (f := 15) (fn := Try.f15) (by kernel_rfl) (by rfl)
   ·exact rcheck_v y _ (by omega) (by omega) (fun c hc => by have := b3 c hc; omega)
   simp (maxSteps := 1000000) only [VL,VM,↓VG,reduceIte,reduceCtorEq,zA,zB,zC,zD,zE,zF,zG,zH,zI,zJ, h4]
   exact ⟨rfl, rfl, rfl, trivial⟩
  ·have k1 : ((3 : Int) < (y.carts.length : Int)) = False := eq_false (by omega)
   simp (maxSteps := 1000000) only [VL,VM,↓VG,reduceIte,reduceCtorEq,zA,zB,zC,zD,zE,zF,zG,zH,zI,zJ, k1]
   exact ⟨rfl, rfl, rfl, trivial⟩
 intro _ e' hS
 refine WCode.weak (e' := [(1, intsV xs), (2, .ptr M.H.length 0), (29, vb false)]) ?_ (Sub.ok hS)
 ((repeat refine Ws ?_);refine Wf (by first|rfl|simp only [EV,zF,reduceIte]) ?_)
 ((repeat refine Ws ?_);refine W_skip ?_)
 simp (maxSteps := 1000000) only [VL,VM,↓VG,reduceIte,reduceCtorEq,zA,zB,zC,zD,zE,zF,zG,zH,zI,zJ]
 ((repeat refine Ws ?_);refine Wr ?_)
 simp (maxSteps := 1000000) only [VL,VM,↓VG,reduceIte,reduceCtorEq,zA,zB,zC,zD,zE,zF,zG,zH,zI,zJ]
 apply call_eq (f := 17) (fn := Try.f17) (by kernel_rfl) (by rfl)
 ·exact dieOf_v xs _ hl
 obtain ⟨M1, hM1⟩ : ∃ M1, M1 = M.H ++ [VObj.obj (yardC y)] := ⟨_, rfl⟩
 obtain ⟨H0, hH0⟩ : ∃ H0, H0 = M1 ++ [VObj.dead] := ⟨_, rfl⟩
 obtain ⟨d, hdd⟩ : ∃ d, d = M1.length := ⟨_, rfl⟩
 have hd : d < H0.length := by rw [hH0, hdd]; simp
 have hlen0 : H0.length = M.H.length + 2 := by rw [hH0, hM1]; simp
 have hlen1 : d = M.H.length + 1 := by rw [hdd, hM1]; simp
 have hbx : ∀ u L, (DH H0 d u L)[M.H.length]? = some (VObj.obj (yardC y)) := fun u L => by
  have := DH_tail ⟨M1, M.lg⟩ u L
  rw [hH0, hdd, this, hM1]
  simp
 rw [← hM1, ← hH0, ← hdd]
 have tail : ∀ u L, DH H0 d u L = M.H ++ (VObj.obj (yardC y) :: .obj [uv u] :: L) := fun u L => by
  rw [hH0, hdd]
  have := DH_tail ⟨M1, M.lg⟩ u L
  rw [this, hM1]
  simp
 generalize dieU xs = u0
 simp (maxSteps := 1000000) only [VL,VM,↓VG,reduceIte,reduceCtorEq,zA,zB,zC,zD,zE,zF,zG,zH,zI,zJ]
 have o1 := one2 (u := u0) (a := 9) (b := 30)
 (repeat refine Ws ?_)
 refine W_drawP T_ok [] (by kernel_rfl) (by kernel_rfl) ?_
 generalize hi : mkPlan _ = infs
 cbv at hi
 subst hi
 simp (maxSteps := 1000000) only [VL,VM,↓VG,reduceIte,reduceCtorEq,zA,zB,zC,zD,zE,zF,zG,zH,zI,zJ, DH_app hd, DH_len, DH_len0, DH_get hd, DH_get0 hd, DH_set hd, DH_set0 hd, DH_setd, DH_die hd, hbx]
 apply call_d (f := 19) (fn := Try.f19) (by kernel_rfl) (by rfl)
 ·exact one_c hd u0 [9, 30] M.lg (by simp) (by simp)
 generalize oneF u0 [9, 30] = m1 at o1 ⊢
 generalize oneU u0 [9, 30] = u1
 simp (maxSteps := 1000000) only [VL,VM,↓VG,reduceIte,reduceCtorEq,zA,zB,zC,zD,zE,zF,zG,zH,zI,zJ, DH_app hd, DH_len, DH_len0, DH_get hd, DH_get0 hd, DH_set hd, DH_set0 hd, DH_setd, DH_die hd, hbx]
 apply call_d (f := 18) (fn := Try.f18) (by kernel_rfl) (by rfl)
 ·exact yardOf_d hd u1 M.lg 2 4 m1 (by omega) (by omega) (by omega)
 have m1d := yardS_made (u := u1) (A := 2) (B := 4) (m := m1) (by omega) (by omega) (by omega)
 generalize yardS u1 2 4 m1 = y2 at m1d ⊢
 simp (maxSteps := 1000000) only [VL,VM,↓VG,reduceIte,reduceCtorEq,zA,zB,zC,zD,zE,zF,zG,zH,zI,zJ, DH_app hd, DH_len, DH_len0, DH_get hd, DH_get0 hd, DH_set hd, DH_set0 hd, DH_setd, DH_die hd, hbx]
 obtain ⟨hs, hhs⟩ : ∃ hs, hs = [y, y2.1] := ⟨_, rfl⟩
 have hs3 : hs.length = 2 := by rw [hhs]; rfl
 have hFs : ∀ z ∈ hs, ShortY z := by
  rw [hhs]
  intro z hz
  simp only [List.mem_cons, List.not_mem_nil, or_false] at hz
  rcases hz with rfl | rfl
  ·exact ⟨b1, b2, b3⟩
  ·exact m1d.short (by omega) (by omega)
 ((repeat refine Ws ?_);refine Wr ?_)
 simp (maxSteps := 1000000) only [VL,VM,↓VG,reduceIte,reduceCtorEq,zA,zB,zC,zD,zE,zF,zG,zH,zI,zJ]
 rw [tail]
 ((repeat refine Ws ?_);refine W_block ?_; (repeat refine Ws ?_)); refine W_loopS (fun s : JSt => [(6, .sf 3 (hs.map yardP)), (7, vi s.i)]) (fun s => ⟨M.H ++ (VObj.obj (yardC y) :: VObj.obj [uv y2.2] :: s.junk), M.lg⟩) (fun s => 2 - s.i) (fun s => s.i ≤ 2) ⟨0, []⟩ (Nat.zero_le _) ⟨?_, rfl, trivial⟩ rfl ?_
 ·rw [hhs]; simp [get_cons]
 rintro ⟨i, junk⟩ hi
 simp only at hi
 have k1 : -9223372036854775808 ≤ (i : Int) + 1 ∧ (i : Int) + 1 < 9223372036854775808 := by omega
 ((repeat refine Ws ?_);refine W_regionE T_ok ?_; intro Kn hKn)
 rcases Nat.lt_or_ge i 2 with hlt | hge
 rotate_left
 ·have k2 : ((i : Int) < ((2 : Nat) : Int)) = False := eq_false (by omega)
  ((simp (maxSteps := 1000000) only [VL,VM,↓VG,reduceIte,reduceCtorEq,zA,zB,zC,zD,zE,zF,zG,zH,zI,zJ, List.length_map, hs3, k2]); rw [hKn]; clear hKn; clear Kn; simp only [thenQ.eq_1, thenQ.eq_2, blockQ.eq_1, blockQ.eq_2, reduceIte, reduceCtorEq, Nat.reduceEqDiff])
  ((repeat refine Ws ?_);refine Wf (by first|rfl|simp only [EV,zF,reduceIte]) ?_)
  (((repeat refine Ws ?_);refine W_exit ?_); simp only [thenQ.eq_1, thenQ.eq_2, blockQ.eq_1, blockQ.eq_2, reduceIte, reduceCtorEq, Nat.reduceEqDiff])
  ((repeat refine Ws ?_);refine W_regionE T_ok ?_; intro Kn hKn)
  simp (maxSteps := 1000000) only [VL,VM,↓VG,reduceIte,reduceCtorEq,zA,zB,zC,zD,zE,zF,zG,zH,zI,zJ]
  apply call_eq (f := 16) (fn := Try.f16) (by kernel_rfl) (by rfl)
  ·exact awake_v _
  ((simp (maxSteps := 1000000) only [VL,VM,↓VG,reduceIte,reduceCtorEq,zA,zB,zC,zD,zE,zF,zG,zH,zI,zJ]); rw [hKn]; clear hKn; clear Kn; simp only [thenQ.eq_1, thenQ.eq_2, blockQ.eq_1, blockQ.eq_2, reduceIte, reduceCtorEq, Nat.reduceEqDiff])
  (repeat refine Ws ?_)
  refine W_ret ?_
  try simp only [thenQ, blockQ]
  refine own_ret1 rfl ?_ (by rfl)
  simp only [get_cons, frz, vtup, Nat.reduceEqDiff, if_true, if_false, reduceIte]
 have k2 : ((i : Int) < ((2 : Nat) : Int)) = True := eq_true (by omega)
 have hx : hs[i]? = some (hs[i]'(by omega)) := List.getElem?_eq_getElem (by omega)
 obtain ⟨f1, f2, f3⟩ := hFs _ (List.getElem_mem (l := hs) (n := i) (by omega))
 generalize hs[i]'(by omega) = z at hx f1 f2 f3
 have hx' := map_at (f := yardP) hx
 have e1 : z.ramps.length ≤ 1000000 := by omega
 have e2 : z.carts.length ≤ 1000000 := by omega
 have e3 : ∀ c ∈ z.carts, c.ramps.length ≤ 1000000 := fun c hc => by have := f3 c hc; omega
 have hp1 := stuckT_len (y := z) e2
 have hp2 := mostT_len (y := z) e2
 clear hx hFs
 ((simp (maxSteps := 1000000) only [VL,VM,↓VG,reduceIte,reduceCtorEq,zA,zB,zC,zD,zE,zF,zG,zH,zI,zJ, List.length_map, hs3, k2]); rw [hKn]; clear hKn; clear Kn; simp only [thenQ.eq_1, thenQ.eq_2, blockQ.eq_1, blockQ.eq_2, reduceIte, reduceCtorEq, Nat.reduceEqDiff])
 ((repeat refine Ws ?_);refine Wt (by first|rfl|simp only [EV,zF,reduceIte]) ?_)
 (((repeat refine Ws ?_);refine W_skip ?_); simp only [thenQ.eq_1, thenQ.eq_2, blockQ.eq_1, blockQ.eq_2, reduceIte, reduceCtorEq, Nat.reduceEqDiff])
 ((repeat refine Ws ?_);refine W_block ?_)
 ((repeat refine Ws ?_);refine W_regionE T_ok ?_; intro Kn hKn)
 simp (maxSteps := 1000000) only [VL,VM,↓VG,reduceIte,reduceCtorEq,zA,zB,zC,zD,zE,zF,zG,zH,zI,zJ, hx']
 apply call_eq (f := 20) (fn := Try.f20) (by kernel_rfl) (by rfl)
 ·exact copyYard_v z _ e1 e2 e3
 ((simp (maxSteps := 1000000) only [VL,VM,↓VG,reduceIte,reduceCtorEq,zA,zB,zC,zD,zE,zF,zG,zH,zI,zJ]); rw [hKn]; clear hKn; clear Kn; simp only [thenQ.eq_1, thenQ.eq_2, blockQ.eq_1, blockQ.eq_2, reduceIte, reduceCtorEq, Nat.reduceEqDiff])
 ((repeat refine Ws ?_);refine W_regionE T_ok ?_; intro Kn hKn)
 simp (maxSteps := 1000000) only [VL,VM,↓VG,reduceIte,reduceCtorEq,zA,zB,zC,zD,zE,zF,zG,zH,zI,zJ, hx']
 apply call_eq (f := 25) (fn := Try.f25) (by kernel_rfl) (by rfl)
 ·exact pstuck_v z _ e1 e2 e3
 ((simp (maxSteps := 1000000) only [VL,VM,↓VG,reduceIte,reduceCtorEq,zA,zB,zC,zD,zE,zF,zG,zH,zI,zJ]); rw [hKn]; clear hKn; clear Kn; simp only [thenQ.eq_1, thenQ.eq_2, blockQ.eq_1, blockQ.eq_2, reduceIte, reduceCtorEq, Nat.reduceEqDiff])
 ((repeat refine Ws ?_);refine W_regionE T_ok ?_; intro Kn hKn)
 simp (maxSteps := 1000000) only [VL,VM,↓VG,reduceIte,reduceCtorEq,zA,zB,zC,zD,zE,zF,zG,zH,zI,zJ, hx']
 apply call_eq (f := 26) (fn := Try.f26) (by kernel_rfl) (by rfl)
 ·exact rstuck_v z _ e1 e2 e3
 ((simp (maxSteps := 1000000) only [VL,VM,↓VG,reduceIte,reduceCtorEq,zA,zB,zC,zD,zE,zF,zG,zH,zI,zJ]); rw [hKn]; clear hKn; clear Kn; simp only [thenQ.eq_1, thenQ.eq_2, blockQ.eq_1, blockQ.eq_2, reduceIte, reduceCtorEq, Nat.reduceEqDiff])
 ((repeat refine Ws ?_);refine W_regionE T_ok ?_; intro Kn hKn)
 simp (maxSteps := 1000000) only [VL,VM,↓VG,reduceIte,reduceCtorEq,zA,zB,zC,zD,zE,zF,zG,zH,zI,zJ, hx']
 apply call_eq (f := 27) (fn := Try.f27) (by kernel_rfl) (by rfl)
 ·exact pmost_v z _ e1 e2 e3
 ((simp (maxSteps := 1000000) only [VL,VM,↓VG,reduceIte,reduceCtorEq,zA,zB,zC,zD,zE,zF,zG,zH,zI,zJ]); rw [hKn]; clear hKn; clear Kn; simp only [thenQ.eq_1, thenQ.eq_2, blockQ.eq_1, blockQ.eq_2, reduceIte, reduceCtorEq, Nat.reduceEqDiff])
 ((repeat refine Ws ?_);refine W_regionE T_ok ?_; intro Kn hKn)
 simp (maxSteps := 1000000) only [VL,VM,↓VG,reduceIte,reduceCtorEq,zA,zB,zC,zD,zE,zF,zG,zH,zI,zJ, hx']
 apply call_eq (f := 28) (fn := Try.f28) (by kernel_rfl) (by rfl)
 ·exact rmost_v z _ e1 e2 e3
 ((simp (maxSteps := 1000000) only [VL,VM,↓VG,reduceIte,reduceCtorEq,zA,zB,zC,zD,zE,zF,zG,zH,zI,zJ]); rw [hKn]; clear hKn; clear Kn; simp only [thenQ.eq_1, thenQ.eq_2, blockQ.eq_1, blockQ.eq_2, reduceIte, reduceCtorEq, Nat.reduceEqDiff])
 have es1 := sameInts_v (stuckT z).1 (stuckT z).1
 have es2 := sameInts_v (mostT z).1 (mostT z).1
 rw [decide_eq_true rfl] at es1 es2
 (repeat refine Ws ?_)
 refine W_drawE T_ok [] (by kernel_rfl) (by kernel_rfl) ?_
 intro Kn hKn
 generalize hi : mkPlan _ = infs
 cbv at hi
 subst hi
 simp (maxSteps := 1000000) only [VL,VM,↓VG,reduceIte,reduceCtorEq,zA,zB,zC,zD,zE,zF,zG,zH,zI,zJ, hx', eq_self, decide_true, Bool.not_true]
 apply call_d (f := 29) (fn := Try.f29) (by kernel_rfl) (by rfl)
 ·exact es1 _ hp1
 simp (maxSteps := 1000000) only [VL,VM,↓VG,reduceIte,reduceCtorEq,zA,zB,zC,zD,zE,zF,zG,zH,zI,zJ, hx', eq_self, decide_true, Bool.not_true]
 apply call_d (f := 29) (fn := Try.f29) (by kernel_rfl) (by rfl)
 ·exact es2 _ hp2
 simp (maxSteps := 1000000) only [VL,VM,↓VG,reduceIte,reduceCtorEq,zA,zB,zC,zD,zE,zF,zG,zH,zI,zJ, hx', eq_self, decide_true, Bool.not_true]
 apply call_d (f := 24) (fn := Try.f24) (by kernel_rfl) (by rfl)
 ·exact sameYards_v z _ e1 e2 e3
 ((simp (maxSteps := 1000000) only [VL,VM,↓VG,reduceIte,reduceCtorEq,zA,zB,zC,zD,zE,zF,zG,zH,zI,zJ, hx', eq_self, decide_true, Bool.not_true]); rw [hKn]; clear hKn; clear Kn; simp only [thenQ.eq_1, thenQ.eq_2, blockQ.eq_1, blockQ.eq_2, reduceIte, reduceCtorEq, Nat.reduceEqDiff])
 ((repeat refine Ws ?_);refine Wf (by first|rfl|simp only [EV,zF,reduceIte]) ?_)
 (((repeat refine Ws ?_);refine W_skip ?_); simp only [thenQ.eq_1, thenQ.eq_2, blockQ.eq_1, blockQ.eq_2, reduceIte, reduceCtorEq, Nat.reduceEqDiff])
 ((repeat refine Ws ?_);refine W_regionE T_ok ?_; intro Kn hKn)
 ((simp (maxSteps := 1000000) only [VL,VM,↓VG,reduceIte,reduceCtorEq,zA,zB,zC,zD,zE,zF,zG,zH,zI,zJ, k1]); rw [hKn]; clear hKn; clear Kn; simp only [thenQ.eq_1, thenQ.eq_2, blockQ.eq_1, blockQ.eq_2, reduceIte, reduceCtorEq, Nat.reduceEqDiff])
 refine LoopK.mk ⟨i + 1, junk ++ [VObj.obj (yardC z)]⟩ (by simp only; omega) (by simp only; omega) ⟨rfl, rfl, trivial⟩ rfl
end Go.Proofs.Ythcicaelnchfdaa.Vm
