/- A part of the proofs about the chapter of the ramps; it states no condition of its own. -/
import Derived.Test.YthcicaelnchfdaaB37
set_option linter.unusedVariables false
set_option linter.unusedSimpArgs false
open Int renaming reduceLE → zA, reduceLT → zB, reduceToNat → zC, reduceNeg → zD
open Nat renaming reduceLT → zE, reduceEqDiff → zF, reduceAdd → zG, reduceSub → zH, reduceMul → zI, reduceLeDiff → zJ
/- The law of as many carts as can be served, on values. (Vm) -/
namespace Go.Proofs.Ythcicaelnchfdaa.Vm
open Go Go.Proofs
theorem v_neBool (a b : Bool) : vbin T .neq 4 (vb a) (vb b) = some (vb (a != b)) := by
 simp only [vbin, t_bool]
 cases a <;> cases b <;> rfl
attribute [local irreducible] castF castU fromF fromU oneF oneU yardS
set_option maxHeartbeats 8000000 in
set_option maxRecDepth 100000 in
theorem most_law_v (xs : List Int) (M : Mem) (hl : xs.length ≤ maxLen) : VC Try.prog 6 [intsV xs] M (fun r M' => M' = M ∧ r = vb true) := by
 refine VC_own' T_ok (f := 6) (fn := Try.f6) (by kernel_rfl) rfl Try.ntmps6 (by rfl) (by rfl) ?_
 ((repeat refine Ws ?_);refine W_regionE T_ok ?_; intro Kn hKn)
 ((simp (maxSteps := 1000000) only [VL,VM,↓VG,reduceIte,reduceCtorEq,zA,zB,zC,zD,zE,zF,zG,zH,zI,zJ]); rw [hKn]; clear hKn; clear Kn; simp only [thenQ.eq_1, thenQ.eq_2, blockQ.eq_1, blockQ.eq_2, reduceIte, reduceCtorEq, Nat.reduceEqDiff])
 ((repeat refine Ws ?_);refine Wr ?_)
 simp (maxSteps := 1000000) only [VL,VM,↓VG,reduceIte,reduceCtorEq,zA,zB,zC,zD,zE,zF,zG,zH,zI,zJ]
 apply call_eq (f := 17) (fn := Try.f17) (by kernel_rfl) (by rfl)
 ·exact dieOf_v xs _ hl
 obtain ⟨H0, hH0⟩ : ∃ H0, H0 = M.H ++ [VObj.dead] := ⟨_, rfl⟩
 obtain ⟨d, hdd⟩ : ∃ d, d = M.H.length := ⟨_, rfl⟩
 have hd : d < H0.length := by rw [hH0, hdd]; simp
 have hlen0 : H0.length = M.H.length + 1 := by rw [hH0]; simp
 have tail : ∀ u L, DH H0 d u L = M.H ++ (.obj [uv u] :: L) := fun u L => by
  rw [hH0, hdd]
  exact DH_tail M u L
 rw [← hH0, ← hdd]
 generalize dieU xs = u0
 simp (maxSteps := 1000000) only [VL,VM,↓VG,reduceIte,reduceCtorEq,zA,zB,zC,zD,zE,zF,zG,zH,zI,zJ]
 have o1 := one2 (u := u0) (a := 9) (b := 30)
 ((repeat refine Ws ?_);refine Wr ?_)
 simp (maxSteps := 1000000) only [VL,VM,↓VG,reduceIte,reduceCtorEq,zA,zB,zC,zD,zE,zF,zG,zH,zI,zJ]
 apply call_eq (f := 19) (fn := Try.f19) (by kernel_rfl) (by rfl)
 ·exact one_c hd u0 [9, 30] M.lg (by simp) (by simp)
 generalize oneF u0 [9, 30] = m1 at o1 ⊢
 generalize oneU u0 [9, 30] = u1
 simp (maxSteps := 1000000) only [VL,VM,↓VG,reduceIte,reduceCtorEq,zA,zB,zC,zD,zE,zF,zG,zH,zI,zJ]
 apply call_eq (f := 18) (fn := Try.f18) (by kernel_rfl) (by rfl)
 ·exact yardOf_d hd u1 M.lg 2 5 m1 (by omega) (by omega) (by omega)
 have md := yardS_made (u := u1) (A := 2) (B := 5) (m := m1) (by omega) (by omega) (by omega)
 generalize yardS u1 2 5 m1 = y2 at md ⊢
 obtain ⟨y, u2⟩ := y2
 simp only at md ⊢
 have hy := md.V (by omega) (by omega) (by omega)
 have lens := md.len (by omega) (by omega)
 have hc7 := hy.m1
 simp (maxSteps := 1000000) only [VL,VM,↓VG,reduceIte,reduceCtorEq,zA,zB,zC,zD,zE,zF,zG,zH,zI,zJ, DH_app hd, DH_len, DH_len0, DH_get hd, DH_get0 hd, DH_set hd, DH_set0 hd, DH_setd, DH_die hd]
 rw [tail, hlen0]
 ((repeat refine Ws ?_);refine W_regionE T_ok ?_; intro Kn hKn)
 simp (maxSteps := 1000000) only [VL,VM,↓VG,reduceIte,reduceCtorEq,zA,zB,zC,zD,zE,zF,zG,zH,zI,zJ]
 apply call_eq (f := 27) (fn := Try.f27) (by kernel_rfl) (by rfl)
 ·exact pmost_v y _ lens.1 lens.2.1 lens.2.2
 ((simp (maxSteps := 1000000) only [VL,VM,↓VG,reduceIte,reduceCtorEq,zA,zB,zC,zD,zE,zF,zG,zH,zI,zJ]); rw [hKn]; clear hKn; clear Kn; simp only [thenQ.eq_1, thenQ.eq_2, blockQ.eq_1, blockQ.eq_2, reduceIte, reduceCtorEq, Nat.reduceEqDiff])
 ((repeat refine Ws ?_);refine W_regionE T_ok ?_; intro Kn hKn)
 simp (maxSteps := 1000000) only [VL,VM,↓VG,reduceIte,reduceCtorEq,zA,zB,zC,zD,zE,zF,zG,zH,zI,zJ]
 apply call_eq (f := 21) (fn := Try.f21) (by kernel_rfl) (by rfl)
 ·exact pserve_v y _ lens.1 lens.2.1 lens.2.2
 rw [serveV]
 ((simp (maxSteps := 1000000) only [VL,VM,↓VG,reduceIte,reduceCtorEq,zA,zB,zC,zD,zE,zF,zG,zH,zI,zJ]); rw [hKn]; clear hKn; clear Kn; simp only [thenQ.eq_1, thenQ.eq_2, blockQ.eq_1, blockQ.eq_2, reduceIte, reduceCtorEq, Nat.reduceEqDiff])
 obtain ⟨l, e, ok⟩ : ∃ l, mostT y = (l, 0) ∧ MostOk y l := by
  refine ⟨_, ?_, most_ok⟩
  rw [mostT, if_pos (yErr_ok.2 hy)]
  cases (mostL y).find? (canB y) <;> rfl
 have hcl := ok.ch.len
 have hfull := ok.full hy
 obtain ⟨k0, hk0, hk1⟩ := ok.idx
 (repeat refine Ws ?_)
 refine W_then [(4, .ptr (M.H.length + 1) 0), (5, intsV l), (46, vb false)] ⟨M.H ++ [.obj [uv u2], .obj (yardC y)], M.lg⟩ ?_ ?_
 ·rw [e]
  cases hs : (servedR y).isSome with
  | true =>
   have es : (serveT y).2.2 = 0 := by rw [serve_err hy, hs]; rfl
   have p1 : ((l.length : Int) = (y.carts.length : Int)) = True := eq_true (by have := hfull.2 hs; omega)
   rw [es]
   ((repeat refine Ws ?_);refine Wr ?_)
   simp (maxSteps := 1000000) only [VL,VM,↓VG,reduceIte,reduceCtorEq,zA,zB,zC,zD,zE,zF,zG,zH,zI,zJ, p1, v_neBool, bne_self_eq_false]
   exact ⟨rfl, rfl, rfl, trivial⟩
  | false =>
   have es : (serveT y).2.2 = 3 := by rw [serve_err hy, hs]; rfl
   have p1 : ((l.length : Int) = (y.carts.length : Int)) = False := eq_false (fun h => by
    have := hfull.1 (by omega)
    rw [hs] at this; cases this)
   rw [es]
   ((repeat refine Ws ?_);refine Wr ?_)
   simp (maxSteps := 1000000) only [VL,VM,↓VG,reduceIte,reduceCtorEq,zA,zB,zC,zD,zE,zF,zG,zH,zI,zJ, p1, v_neBool, bne_self_eq_false]
   exact ⟨rfl, rfl, rfl, trivial⟩
 intro _ e' hS
 refine WCode.weak (e' := [(4, .ptr (M.H.length + 1) 0), (5, intsV l), (46, vb false)]) ?_ (Sub.ok hS)
 ((repeat refine Ws ?_);refine Wf (by first|rfl|simp only [EV,zF,reduceIte]) ?_)
 (((repeat refine Ws ?_);refine W_skip ?_); simp only [thenQ.eq_1, thenQ.eq_2, blockQ.eq_1, blockQ.eq_2, reduceIte, reduceCtorEq, Nat.reduceEqDiff])
 ((repeat refine Ws ?_);refine W_regionE T_ok ?_; intro Kn hKn)
 ((simp (maxSteps := 1000000) only [VL,VM,↓VG,reduceIte,reduceCtorEq,zA,zB,zC,zD,zE,zF,zG,zH,zI,zJ]); rw [hKn]; clear hKn; clear Kn; simp only [thenQ.eq_1, thenQ.eq_2, blockQ.eq_1, blockQ.eq_2, reduceIte, reduceCtorEq, Nat.reduceEqDiff])
 ((repeat refine Ws ?_);refine W_block ?_; (repeat refine Ws ?_)); refine W_loopS (fun m : Nat => [(4, .ptr (M.H.length + 1) 0), (5, intsV l), (10, vi m)]) (fun _ => ⟨M.H ++ [.obj [uv u2], .obj (yardC y)], M.lg⟩) (fun m => m) (fun m => l.length ≤ m ∧ m ≤ y.carts.length) y.carts.length ⟨hcl, Nat.le_refl _⟩ ⟨rfl, rfl, rfl, trivial⟩ rfl ?_
 rintro m ⟨hm1, hm2⟩
 have z1 : -9223372036854775808 ≤ (m : Int) - 1 ∧ (m : Int) - 1 < 9223372036854775808 := by omega
 have z2 : ((0 : Int) ≤ (m : Int)) = True := eq_true (by omega)
 ((repeat refine Ws ?_);refine W_regionE T_ok ?_; intro Kn hKn)
 ((simp (maxSteps := 1000000) only [VL,VM,↓VG,reduceIte,reduceCtorEq,zA,zB,zC,zD,zE,zF,zG,zH,zI,zJ, z2]); rw [hKn]; clear hKn; clear Kn; simp only [thenQ.eq_1, thenQ.eq_2, blockQ.eq_1, blockQ.eq_2, reduceIte, reduceCtorEq, Nat.reduceEqDiff])
 ((repeat refine Ws ?_);refine Wt (by first|rfl|simp only [EV,zF,reduceIte]) ?_)
 (((repeat refine Ws ?_);refine W_skip ?_); simp only [thenQ.eq_1, thenQ.eq_2, blockQ.eq_1, blockQ.eq_2, reduceIte, reduceCtorEq, Nat.reduceEqDiff])
 ((repeat refine Ws ?_);refine W_block ?_)
 ((repeat refine Ws ?_);refine W_regionE T_ok ?_; intro Kn hKn)
 simp (maxSteps := 1000000) only [VL,VM,↓VG,reduceIte,reduceCtorEq,zA,zB,zC,zD,zE,zF,zG,zH,zI,zJ]
 apply call_eq (f := 30) (fn := Try.f30) (by kernel_rfl) (by rfl)
 ·exact choices_v m y.carts.length 0 _ hc7 (by omega) (Nat.zero_le _)
 ((simp (maxSteps := 1000000) only [VL,VM,↓VG,reduceIte,reduceCtorEq,zA,zB,zC,zD,zE,zF,zG,zH,zI,zJ]); rw [hKn]; clear hKn; clear Kn; simp only [thenQ.eq_1, thenQ.eq_2, blockQ.eq_1, blockQ.eq_2, reduceIte, reduceCtorEq, Nat.reduceEqDiff])
 have hchl := choices_len (n := y.carts.length) (m := m) (f := 0) hc7 (by omega) (Nat.zero_le _)
 obtain ⟨W, hW⟩ : ∃ W, W = choices y.carts.length m 0 := ⟨_, rfl⟩
 rw [← hW] at hchl ⊢
 have hWm : ∀ a ∈ W, ChY y a ∧ a.length = m := fun a ha => choices_ch (by rw [← hW]; exact ha)
 ((repeat refine Ws ?_);refine W_regionE T_ok ?_; intro Kn hKn)
 ((simp (maxSteps := 1000000) only [VL,VM,↓VG,reduceIte,reduceCtorEq,zA,zB,zC,zD,zE,zF,zG,zH,zI,zJ]); rw [hKn]; clear hKn; clear Kn; simp only [thenQ.eq_1, thenQ.eq_2, blockQ.eq_1, blockQ.eq_2, reduceIte, reduceCtorEq, Nat.reduceEqDiff])
 ((repeat refine Ws ?_);refine W_block ?_; (repeat refine Ws ?_)); refine W_loopS (fun i : Nat => [(4, .ptr (M.H.length + 1) 0), (5, intsV l), (10, vi m), (11, tabV W), (12, vi i)]) (fun _ => ⟨M.H ++ [.obj [uv u2], .obj (yardC y)], M.lg⟩) (fun i => W.length - i) (fun i => i ≤ W.length ∧ (m = l.length → i ≤ k0)) 0 ⟨Nat.zero_le _, fun _ => Nat.zero_le _⟩ ⟨rfl, rfl, rfl, rfl, rfl, trivial⟩ rfl ?_
 rintro i ⟨hi1, hi2⟩
 have w1 : -9223372036854775808 ≤ (i : Int) + 1 ∧ (i : Int) + 1 < 9223372036854775808 := by omega
 ((repeat refine Ws ?_);refine W_regionE T_ok ?_; intro Kn hKn)
 rcases Nat.lt_or_ge i W.length with hlt | hge
 ·have w2 : ((i : Int) < (W.length : Int)) = True := eq_true (by omega)
  have hx : W[i]? = some W[i] := List.getElem?_eq_getElem hlt
  obtain ⟨hca, hal⟩ := hWm _ (List.getElem_mem hlt)
  have hin : W[i] ∈ W := List.getElem_mem hlt
  generalize W[i] = a at hx hca hal hin
  have hx' := map_at (f := rowP) hx
  have lo := only_lens lens hca
  have ha7 : a.length ≤ 1000000 := by have := hca.len; omega
  ((simp (maxSteps := 1000000) only [VL,VM,↓VG,reduceIte,reduceCtorEq,zA,zB,zC,zD,zE,zF,zG,zH,zI,zJ, w2]); rw [hKn]; clear hKn; clear Kn; simp only [thenQ.eq_1, thenQ.eq_2, blockQ.eq_1, blockQ.eq_2, reduceIte, reduceCtorEq, Nat.reduceEqDiff])
  ((repeat refine Ws ?_);refine Wt (by first|rfl|simp only [EV,zF,reduceIte]) ?_)
  (((repeat refine Ws ?_);refine W_skip ?_); simp only [thenQ.eq_1, thenQ.eq_2, blockQ.eq_1, blockQ.eq_2, reduceIte, reduceCtorEq, Nat.reduceEqDiff])
  ((repeat refine Ws ?_);refine W_block ?_)
  ·skip
   (repeat refine Ws ?_)
   refine W_drawE T_ok [] (by kernel_rfl) (by kernel_rfl) ?_
   intro Kn hKn
   generalize hi : mkPlan _ = infs
   cbv at hi
   subst hi
   simp (maxSteps := 1000000) only [VL,VM,↓VG,reduceIte,reduceCtorEq,zA,zB,zC,zD,zE,zF,zG,zH,zI,zJ, hx']
   apply call_d (f := 31) (fn := Try.f31) (by kernel_rfl) (by rfl)
   ·exact only_v a _ ha7 hca.m
   simp (maxSteps := 1000000) only [VL,VM,↓VG,reduceIte,reduceCtorEq,zA,zB,zC,zD,zE,zF,zG,zH,zI,zJ, hx']
   apply call_d (f := 21) (fn := Try.f21) (by kernel_rfl) (by rfl)
   ·exact pserve_v (onlyY y a) _ lo.1 lo.2.1 lo.2.2
   rw [serveV]
   ((simp (maxSteps := 1000000) only [VL,VM,↓VG,reduceIte,reduceCtorEq,zA,zB,zC,zD,zE,zF,zG,zH,zI,zJ, hx']); rw [hKn]; clear hKn; clear Kn; simp only [thenQ.eq_1, thenQ.eq_2, blockQ.eq_1, blockQ.eq_2, reduceIte, reduceCtorEq, Nat.reduceEqDiff])
   by_cases hal2 : a = l
   ·subst hal2
    have es2 : (serveT (onlyY y a)).2.2 = 0 := by rw [serve_only hy hca, ok.can]; rfl
    rw [es2]
    have es1 := sameInts_v a a
    rw [decide_eq_true rfl] at es1
    ((repeat refine Ws ?_);refine W_regionE T_ok ?_; intro Kn hKn)
    ((simp (maxSteps := 1000000) only [VL,VM,↓VG,reduceIte,reduceCtorEq,zA,zB,zC,zD,zE,zF,zG,zH,zI,zJ]); rw [hKn]; clear hKn; clear Kn; simp only [thenQ.eq_1, thenQ.eq_2, blockQ.eq_1, blockQ.eq_2, reduceIte, reduceCtorEq, Nat.reduceEqDiff])
    ((repeat refine Ws ?_);refine Wt (by first|rfl|simp only [EV,zF,reduceIte]) ?_)
    ((repeat refine Ws ?_);refine W_regionE T_ok ?_; intro Kn hKn)
    simp (maxSteps := 1000000) only [VL,VM,↓VG,reduceIte,reduceCtorEq,zA,zB,zC,zD,zE,zF,zG,zH,zI,zJ, hx']
    apply call_eq (f := 29) (fn := Try.f29) (by kernel_rfl) (by rfl)
    ·exact es1 _ ha7
    simp (maxSteps := 1000000) only [VL,VM,↓VG,reduceIte,reduceCtorEq,zA,zB,zC,zD,zE,zF,zG,zH,zI,zJ]
    apply call_eq (f := 16) (fn := Try.f16) (by kernel_rfl) (by rfl)
    ·exact awake_v _
    ((simp (maxSteps := 1000000) only [VL,VM,↓VG,reduceIte,reduceCtorEq,zA,zB,zC,zD,zE,zF,zG,zH,zI,zJ]); rw [hKn]; clear hKn; clear Kn; simp only [thenQ.eq_1, thenQ.eq_2, blockQ.eq_1, blockQ.eq_2, reduceIte, reduceCtorEq, Nat.reduceEqDiff])
    (repeat refine Ws ?_)
    refine W_ret ?_
    try simp only [thenQ, blockQ]
    refine own_ret1 rfl ?_ (by rfl)
    simp only [get_cons, frz, vtup, Nat.reduceEqDiff, if_true, if_false, reduceIte]
   ·have hcan : canB y a = false := by
     rcases Nat.lt_or_ge l.length m with q | q
     ·exact ok.big m q hm2 a (by rw [← hW]; exact hin)
     ·have hml : m = l.length := by omega
      have hik := hi2 hml
      rw [hW, hml] at hx
      rcases Nat.lt_or_ge i k0 with q2 | q2
      ·exact hk1 i q2 a hx
      ·rw [show i = k0 by omega, hk0] at hx
       exact absurd (Option.some.inj hx).symm hal2
    have hi3 : m = l.length → i + 1 ≤ k0 := fun hml => by
     have hik := hi2 hml
     rcases Nat.lt_or_ge i k0 with q2 | q2
     ·omega
     ·rw [hW, hml, show i = k0 by omega, hk0] at hx
      exact absurd (Option.some.inj hx).symm hal2
    have es2 : (serveT (onlyY y a)).2.2 = 3 := by rw [serve_only hy hca, hcan]; rfl
    rw [es2]
    ((repeat refine Ws ?_);refine W_regionE T_ok ?_; intro Kn hKn)
    ((simp (maxSteps := 1000000) only [VL,VM,↓VG,reduceIte,reduceCtorEq,zA,zB,zC,zD,zE,zF,zG,zH,zI,zJ]); rw [hKn]; clear hKn; clear Kn; simp only [thenQ.eq_1, thenQ.eq_2, blockQ.eq_1, blockQ.eq_2, reduceIte, reduceCtorEq, Nat.reduceEqDiff])
    ((repeat refine Ws ?_);refine Wf (by first|rfl|simp only [EV,zF,reduceIte]) ?_)
    (((repeat refine Ws ?_);refine W_skip ?_); simp only [thenQ.eq_1, thenQ.eq_2, blockQ.eq_1, blockQ.eq_2, reduceIte, reduceCtorEq, Nat.reduceEqDiff])
    ((repeat refine Ws ?_);refine W_regionE T_ok ?_; intro Kn hKn)
    ((simp (maxSteps := 1000000) only [VL,VM,↓VG,reduceIte,reduceCtorEq,zA,zB,zC,zD,zE,zF,zG,zH,zI,zJ, w1]); rw [hKn]; clear hKn; clear Kn; simp only [thenQ.eq_1, thenQ.eq_2, blockQ.eq_1, blockQ.eq_2, reduceIte, reduceCtorEq, Nat.reduceEqDiff])
    exact LoopK.mk (i + 1) (by omega) ⟨by omega, hi3⟩ ⟨rfl, rfl, rfl, rfl, rfl, trivial⟩ rfl
 have w2 : ((i : Int) < (W.length : Int)) = False := eq_false (by omega)
 have hml : l.length < m := by
  rcases Nat.lt_or_ge l.length m with q | q
  ·exact q
  ·have hml : m = l.length := by omega
   have hik := hi2 hml
   have := (List.getElem?_eq_some_iff.1 hk0).1
   rw [← hml, ← hW] at this
   omega
 ((simp (maxSteps := 1000000) only [VL,VM,↓VG,reduceIte,reduceCtorEq,zA,zB,zC,zD,zE,zF,zG,zH,zI,zJ, w2]); rw [hKn]; clear hKn; clear Kn; simp only [thenQ.eq_1, thenQ.eq_2, blockQ.eq_1, blockQ.eq_2, reduceIte, reduceCtorEq, Nat.reduceEqDiff])
 ((repeat refine Ws ?_);refine Wf (by first|rfl|simp only [EV,zF,reduceIte]) ?_)
 (((repeat refine Ws ?_);refine W_exit ?_); simp only [thenQ.eq_1, thenQ.eq_2, blockQ.eq_1, blockQ.eq_2, reduceIte, reduceCtorEq, Nat.reduceEqDiff])
 ((repeat refine Ws ?_);refine W_regionE T_ok ?_; intro Kn hKn)
 ((simp (maxSteps := 1000000) only [VL,VM,↓VG,reduceIte,reduceCtorEq,zA,zB,zC,zD,zE,zF,zG,zH,zI,zJ, z1]); rw [hKn]; clear hKn; clear Kn; simp only [thenQ.eq_1, thenQ.eq_2, blockQ.eq_1, blockQ.eq_2, reduceIte, reduceCtorEq, Nat.reduceEqDiff])
 have e9 : (m : Int) - 1 = ((m - 1 : Nat) : Int) := by omega
 exact LoopK.mk (m - 1) (by omega) (by omega) ⟨rfl, rfl, by simp only [get_cons, Nat.reduceEqDiff, if_true, if_false, reduceIte]; rw [e9], trivial⟩ rfl
end Go.Proofs.Ythcicaelnchfdaa.Vm
