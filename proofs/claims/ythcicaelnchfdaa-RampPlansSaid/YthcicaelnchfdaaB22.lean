/- A part of the proofs about the chapter of the ramps; it states no condition of its own. -/
import Derived.Test.YthcicaelnchfdaaB15
import Derived.Test.YthcicaelnchfdaaB16
import Derived.Test.YthcicaelnchfdaaB21
set_option linter.unusedVariables false
set_option linter.unusedSimpArgs false
open Int renaming reduceLE → zA, reduceLT → zB, reduceToNat → zC, reduceNeg → zD
open Nat renaming reduceLT → zE, reduceEqDiff → zF, reduceAdd → zG, reduceSub → zH, reduceMul → zI, reduceLeDiff → zJ
/- The reference's search for the best plan, on values. (Vm) -/
-- TABLE TO
namespace Go.Proofs.Ythcicaelnchfdaa.Vm
open Go Go.Proofs
theorem last_p {y : Ya} (hy : YaV y) {x : List St} (hx : PB y x) (M : Mem) : VC Try.prog 40 [yardV y, stsV x] M (fun r M' => M' = M ∧ r = vi (lastV y x)) := by
 have h1 := hx.1
 have h2 := hy.m1
 refine last_v y x M (by omega) (by omega) fun i hi => ?_
 have c := hy.ct _ (ctAt_mem (y := y) (i := i) (by omega))
 have := hx.2 i hi
 have := c.l0
 have := c.lh
 have := c.h1
 omega
theorem st_put {l : List St} {i : Nat} {a b : Int} (h : i < l.length) : (stC l).take (i * 2) ++ vi a :: vi b :: (stC l).drop (i * 2 + 2) = stC (l.set i ⟨a, b⟩) := by
 rw [← stC_set l i ⟨a, b⟩ h]
 simp [splice]
theorem in_put {l : List Int} {i : Nat} {a : Int} (h : i < l.length) : (l.take i).map vi ++ vi a :: (l.drop (i + 1)).map vi = (l.set i a).map vi := by
 rw [← ints_set l i a h]
 simp [splice]
theorem own_ret2O {f : Nat} {fn : Func} {M : Mem} {L : List VObj} {e : Env} {t t' : Nat} {X Y : VV} (h1 : fn.results.toList = [.tmp t, .tmp t']) (hr : frz M.H.length (M.H ++ L) (get e t) = X) (hr' : frz M.H.length (M.H ++ L) (get e t') = Y) (h2 : refs X = []) (h2' : refs Y = []) : ownQ TO f fn M (fun r M' => M' = M ∧ r = .tup [X, Y]) .ret e ⟨M.H ++ L, M.lg⟩ [] := own_ret2 h1 hr hr' h2 h2'
theorem asc_len : ∀ {l : List Int} {a b : Int}, l.Pairwise (· < ·) → (∀ x ∈ l, a ≤ x ∧ x < b) → l.length ≤ (b - a).toNat
 | [], a, b, _, _ => Nat.zero_le _
 | x :: l, a, b, h, hb => by
  obtain ⟨h1, h2⟩ := List.pairwise_cons.1 h
  have hx := hb x (by simp)
  have := asc_len (l := l) (a := x + 1) (b := b) h2 fun z hz => ⟨by have := h1 z hz; omega, (hb z (by simp [hz])).2⟩
  simp only [List.length_cons]
  omega
set_option maxRecDepth 4000 in
set_option maxHeartbeats 8000000 in
theorem serve_v {y : Ya} (hy : YaV y) : ∀ (n : Nat) (plan : List St) (free : List Int) (M : Mem), SvOk y plan free → un plan ≤ n → VC Try.prog 80 [yardV y, stsV plan, intsV free] M (fun r M' => M' = M ∧ r = .tup [stsV ((servR y n plan free).getD []), vb (servR y n plan free).isSome]) := by
 intro n
 induction n using Nat.strongRecOn with
 | ind n ih =>
 intro plan free M hsv hun
 have hl := hsv.len
 have hfl := hsv.fl
 have hm1 := hy.m1
 have hn1 := hy.n1
 have q16 : (plan.length * 16 ≤ 140737488355328) = True := eq_true (by omega)
 have q8 : (free.length * 8 ≤ 140737488355328) = True := eq_true (by omega)
 obtain ⟨S, hS⟩ : ∃ S, S = servR y (n - 1) := ⟨_, rfl⟩
 have hSx : ∀ p f, SvOk y p f → un p + 1 = un plan → ∀ (M : Mem), VC Try.prog 80 [yardV y, stsV p, intsV f] M (fun r M' => M' = M ∧ r = .tup [stsV ((S p f).getD []), vb (S p f).isSome]) := fun p f hp hu M => by
  rw [hS]
  exact ih (n - 1) (by omega) p f M hp (by omega)
 have hSp : ∀ p f, SvOk y p f → ∀ x, S p f = some x → PB y x := fun p f hp x hx => servR_pb hy (n - 1) p f hp x (by rw [← hS]; exact hx)
 have hres : servR y n plan free = if plan.all placed then some plan else (List.range plan.length).foldl (stepI y S plan free) none := by
  cases hp : plan.all placed with
  | true => rw [servR_all hp]; rfl
  | false =>
   cases n with
   | zero =>
    have := all_un (plan := plan) (by omega)
    rw [hp] at this
    cases this
   | succ n =>
    rw [servR, hp, hS]; rfl
 refine VC_own' TO_ok (f := 80) (fn := Try.f80) (by kernel_rfl) rfl Try.ntmps80 (by rfl) (by rfl) ?_
 ((repeat refine Ws ?_);refine W_regionE TO_ok ?_; intro Kn hKn)
 ((simp (maxSteps := 1000000) only [xO_ty, xO_fn, xO_bin, xO_oi, xO_oc, xO_ok, VL,VM,↓VG,reduceIte,reduceCtorEq,zA,zB,zC,zD,zE,zF,zG,zH,zI,zJ]); rw [hKn];clear hKn Kn;simp only [QV,reduceIte,reduceCtorEq,Nat.reduceEqDiff])
 ((repeat refine Ws ?_);refine W_regionE TO_ok ?_; intro Kn hKn)
 ((simp (maxSteps := 1000000) only [xO_ty, xO_fn, xO_bin, xO_oi, xO_oc, xO_ok, VL,VM,↓VG,reduceIte,reduceCtorEq,zA,zB,zC,zD,zE,zF,zG,zH,zI,zJ]); rw [hKn];clear hKn Kn;simp only [QV,reduceIte,reduceCtorEq,Nat.reduceEqDiff])
 (repeat refine Ws ?_)
 refine W_nil (t := 8) (k := 2) rfl ?_
 ((repeat refine Ws ?_);refine W_regionE TO_ok ?_; intro Kn hKn)
 ((simp (maxSteps := 1000000) only [xO_ty, xO_fn, xO_bin, xO_oi, xO_oc, xO_ok, VL,VM,↓VG,reduceIte,reduceCtorEq,zA,zB,zC,zD,zE,zF,zG,zH,zI,zJ]); rw [hKn];clear hKn Kn;simp only [QV,reduceIte,reduceCtorEq,Nat.reduceEqDiff])
 ((repeat refine Ws ?_);refine W_regionE TO_ok ?_; intro Kn hKn)
 ((simp (maxSteps := 1000000) only [xO_ty, xO_fn, xO_bin, xO_oi, xO_oc, xO_ok, VL,VM,↓VG,reduceIte,reduceCtorEq,zA,zB,zC,zD,zE,zF,zG,zH,zI,zJ]); rw [hKn];clear hKn Kn;simp only [QV,reduceIte,reduceCtorEq,Nat.reduceEqDiff])
 ((repeat refine Ws ?_);refine W_block ?_; (repeat refine Ws ?_)); refine W_loopS (fun (s : Nat × List VObj × Option (List St)) => [(1, stsV plan), (2, intsV free), (3, .ptr M.H.length 0), (8, stsV (s.2.2.getD [])), (9, vb ((plan.take s.1).all placed)), (10, vb s.2.2.isSome), (11, vi s.1)]) (fun s => ⟨M.H ++ .obj (yardC y) :: s.2.1, M.lg⟩) (fun s => plan.length - s.1) (fun s => s.1 ≤ plan.length ∧ s.2.2 = (List.range s.1).foldl (stepI y S plan free) none ∧ ∀ b, s.2.2 = some b → PB y b) (0, [], none) ⟨by simp, by simp, fun b hb => by cases hb⟩ ⟨rfl, rfl, rfl, rfl, rfl, rfl, rfl, trivial⟩ rfl ?_
 rintro ⟨i, L, best⟩ ⟨hi, hbe, hbb⟩
 simp only at hi hbe hbb
 have k1 : -9223372036854775808 ≤ (i : Int) + 1 ∧ (i : Int) + 1 < 9223372036854775808 := by omega
 ((repeat refine Ws ?_);refine W_regionE TO_ok ?_; intro Kn hKn)
 rcases Nat.lt_or_ge i plan.length with hlt | hge
 ·have k2 : ((i : Int) < (plan.length : Int)) = True := eq_true (by omega)
  have hi2 : i < y.carts.length := by omega
  have hx' := map_at (f := stP) (stAt_get hlt)
  have hy' := map_at (f := ctP) (ctAt_get hi2)
  have hall : (plan.take (i + 1)).all placed = ((plan.take i).all placed && placed (stAt plan i)) := by
   rw [List.take_add_one, stAt_get hlt]; simp
  have hrng : (List.range (i + 1)).foldl (stepI y S plan free) none = stepI y S plan free best i := by
   rw [List.range_succ, List.foldl_append, ← hbe]; rfl
  have c := hy.ct _ (ctAt_mem hi2)
  have cf0 := c.f0
  have cu1 := c.u1
  have ch1 := c.h1
  have cl0 := c.l0
  have clh := c.lh
  have hs0 := hy.s0
  have hs1 := hy.s1
  ((simp (maxSteps := 1000000) only [xO_ty, xO_fn, xO_bin, xO_oi, xO_oc, xO_ok, VL,VM,↓VG,reduceIte,reduceCtorEq,zA,zB,zC,zD,zE,zF,zG,zH,zI,zJ, k2]); rw [hKn];clear hKn Kn;simp only [QV,reduceIte,reduceCtorEq,Nat.reduceEqDiff])
  ((repeat refine Ws ?_);refine Wt (by first|rfl|simp only [EV,zF,reduceIte]) ?_)
  (((repeat refine Ws ?_);refine W_skip ?_); simp only [QV,reduceIte,reduceCtorEq,Nat.reduceEqDiff])
  ((repeat refine Ws ?_);refine W_block ?_)
  ((repeat refine Ws ?_);refine W_regionE TO_ok ?_; intro Kn hKn)
  by_cases h1 : 0 ≤ (stAt plan i).ramp
  ·have hpl : placed (stAt plan i) = true := decide_eq_true h1
   rw [hpl, Bool.and_true] at hall
   rw [stepI, if_pos h1] at hrng
   ((simp (maxSteps := 1000000) only [xO_ty, xO_fn, xO_bin, xO_oi, xO_oc, xO_ok, VL,VM,↓VG,reduceIte,reduceCtorEq,zA,zB,zC,zD,zE,zF,zG,zH,zI,zJ, hx', h1]); rw [hKn];clear hKn Kn;simp only [QV,reduceIte,reduceCtorEq,Nat.reduceEqDiff])
   ((repeat refine Ws ?_);refine Wt (by first|rfl|simp only [EV,zF,reduceIte]) ?_)
   (((repeat refine Ws ?_);refine W_exit ?_); simp only [QV,reduceIte,reduceCtorEq,Nat.reduceEqDiff])
   ((repeat refine Ws ?_);refine W_regionE TO_ok ?_; intro Kn hKn)
   ((simp (maxSteps := 1000000) only [xO_ty, xO_fn, xO_bin, xO_oi, xO_oc, xO_ok, VL,VM,↓VG,reduceIte,reduceCtorEq,zA,zB,zC,zD,zE,zF,zG,zH,zI,zJ, k1]); rw [hKn];clear hKn Kn;simp only [QV,reduceIte,reduceCtorEq,Nat.reduceEqDiff])
   refine LoopK.mk (i + 1, L, best) (by simp; omega) ⟨by simp; omega, hrng.symm, hbb⟩ ⟨rfl, rfl, rfl, rfl, ?_, rfl, rfl, trivial⟩ rfl
   rw [hall]; rfl
  ·have hpl : placed (stAt plan i) = false := decide_eq_false h1
   rw [hpl, Bool.and_false] at hall
   rw [stepI, if_neg h1] at hrng
   ((simp (maxSteps := 1000000) only [xO_ty, xO_fn, xO_bin, xO_oi, xO_oc, xO_ok, VL,VM,↓VG,reduceIte,reduceCtorEq,zA,zB,zC,zD,zE,zF,zG,zH,zI,zJ, hx', h1]); rw [hKn];clear hKn Kn;simp only [QV,reduceIte,reduceCtorEq,Nat.reduceEqDiff])
   ((repeat refine Ws ?_);refine Wf (by first|rfl|simp only [EV,zF,reduceIte]) ?_)
   (((repeat refine Ws ?_);refine W_skip ?_); simp only [QV,reduceIte,reduceCtorEq,Nat.reduceEqDiff])
   ((repeat refine Ws ?_);refine W_regionE TO_ok ?_; intro Kn hKn)
   ((simp (maxSteps := 1000000) only [xO_ty, xO_fn, xO_bin, xO_oi, xO_oc, xO_ok, VL,VM,↓VG,reduceIte,reduceCtorEq,zA,zB,zC,zD,zE,zF,zG,zH,zI,zJ]); rw [hKn];clear hKn Kn;simp only [QV,reduceIte,reduceCtorEq,Nat.reduceEqDiff])
   ((repeat refine Ws ?_);refine W_regionE TO_ok ?_; intro Kn hKn)
   ((simp (maxSteps := 1000000) only [xO_ty, xO_fn, xO_bin, xO_oi, xO_oc, xO_ok, VL,VM,↓VG,reduceIte,reduceCtorEq,zA,zB,zC,zD,zE,zF,zG,zH,zI,zJ, hy']); rw [hKn];clear hKn Kn;simp only [QV,reduceIte,reduceCtorEq,Nat.reduceEqDiff])
   obtain ⟨H1, hH1⟩ : ∃ H1, H1 = M.H ++ VObj.obj (yardC y) :: (L ++ [.obj (ctC (ctAt y i))]) := ⟨_, rfl⟩
   obtain ⟨n12, hn12⟩ : ∃ n12, n12 = M.H.length + (L.length + 1) := ⟨_, rfl⟩
   have g1 : ∀ X, (H1 ++ X)[M.H.length]? = some (.obj (yardC y)) := fun X => by rw [hH1]; simp
   have g2 : ∀ X, (H1 ++ X)[n12]? = some (.obj (ctC (ctAt y i))) := fun X => by rw [hH1, hn12]; simp
   have hfold : ∀ k, k ≤ (ctAt y i).ramps.length → ∀ b, ((ctAt y i).ramps.take k).foldl (stepK y S plan free i) best = some b → PB y b := by
    intro k hk
    refine fold_inv (p := fun best : Option (List St) => ∀ b, best = some b → PB y b) hbb fun r hr best hbest b hbs => ?_
    have hr2 := c.r r (List.mem_of_mem_take hr)
    unfold stepK at hbs
    split at hbs
    ·exact hbest b hbs
    ·rename_i q hq
     split at hbs
     ·exact hbest b hbs
     ·rename_i z hz
      rcases better_some hbs with rfl | h2
      ·exact hSp _ _ (servC_ok hy hsv hlt hr2.1 hr2.2 hq) _ hz
      ·exact hbest b h2
   ((repeat refine Ws ?_);refine W_regionE TO_ok ?_; intro Kn hKn)
   ((simp (maxSteps := 1000000) only [xO_ty, xO_fn, xO_bin, xO_oi, xO_oc, xO_ok, VL,VM,↓VG,reduceIte,reduceCtorEq,zA,zB,zC,zD,zE,zF,zG,zH,zI,zJ]); rw [hKn];clear hKn Kn;simp only [QV,reduceIte,reduceCtorEq,Nat.reduceEqDiff])
   ((repeat refine Ws ?_);refine W_block ?_; (repeat refine Ws ?_)); refine W_loopS (fun (s : Nat × List VObj × Option (List St)) => [(1, stsV plan), (2, intsV free), (3, .ptr M.H.length 0), (8, stsV (s.2.2.getD [])), (9, vb false), (10, vb s.2.2.isSome), (11, vi i), (12, .ptr n12 0), (13, vi s.1)]) (fun s => ⟨H1 ++ s.2.1, M.lg⟩) (fun s => (ctAt y i).ramps.length - s.1) (fun s => s.1 ≤ (ctAt y i).ramps.length ∧ s.2.2 = ((ctAt y i).ramps.take s.1).foldl (stepK y S plan free i) best) (0, [], best) ⟨by simp, by simp⟩ ⟨rfl, rfl, rfl, rfl, rfl, rfl, rfl, by rw [hn12]; rfl, rfl, trivial⟩ (by rw [hH1]; simp) ?_
   ·rintro ⟨k, L2, bk⟩ ⟨hk, hbk⟩
    simp only at hk hbk
    have hbkb : ∀ b, bk = some b → PB y b := fun b hb => hfold k hk b (by rw [← hbk]; exact hb)
    have hk8 : (ctAt y i).ramps.length ≤ 1000000 := by
     have a1 := asc_len c.asc (a := 0) (b := y.ramps.length) c.r
     have a2 := hy.n1
     omega
    have j1 : -9223372036854775808 ≤ (k : Int) + 1 ∧ (k : Int) + 1 < 9223372036854775808 := by omega
    ((repeat refine Ws ?_);refine W_regionE TO_ok ?_; intro Kn hKn)
    rcases Nat.lt_or_ge k (ctAt y i).ramps.length with hlt2 | hge2
    ·have j2 : ((k : Int) < ((ctAt y i).ramps.length : Int)) = True := eq_true (by omega)
     have hr : (ctAt y i).ramps[k]? = some (ctAt y i).ramps[k] := List.getElem?_eq_getElem hlt2
     have hr' := map_at (f := intP) hr
     have hrv := c.r _ (List.getElem_mem hlt2)
     have htk : ((ctAt y i).ramps.take (k + 1)).foldl (stepK y S plan free i) best = stepK y S plan free i bk (ctAt y i).ramps[k] := by
      rw [List.take_add_one, hr, List.foldl_append, ← hbk]; rfl
     generalize (ctAt y i).ramps[k] = r at hr hr' hrv htk
     obtain ⟨hr0, hr1⟩ := hrv
     have hrt : r.toNat < free.length := by omega
     have hz' := map_at (f := raP) (raAt_get hr0 hr1)
     have hw' := map_at (f := intP) (tkAt_get hrt)
     have hfr := hsv.fr _ hrt
     have hcb := candF_bd (free := free) (i := i) (r := r) hy hi2 hr0 hr1 hfr
     obtain ⟨A, hA⟩ : ∃ A, A = candF y free i r := ⟨_, rfl⟩
     have hA2 : max (ctAt y i).from_ (max (raAt y r).open_ (tkAt free r.toNat)) = A := by rw [hA]; rfl
     rw [← hA] at hcb
     have j3 : -9223372036854775808 ≤ A + (ctAt y i).takes.hi ∧ A + (ctAt y i).takes.hi < 9223372036854775808 := by omega
     have j4 : -9223372036854775808 ≤ A + (ctAt y i).takes.hi + y.sweep ∧ A + (ctAt y i).takes.hi + y.sweep < 9223372036854775808 := by omega
     have hsc : servC y plan free i r = servC y plan free i r := rfl
     conv at hsc => rhs; unfold servC
     rw [← hA] at hsc
     ((simp (maxSteps := 1000000) only [xO_ty, xO_fn, xO_bin, xO_oi, xO_oc, xO_ok, VL,VM,↓VG,reduceIte,reduceCtorEq,zA,zB,zC,zD,zE,zF,zG,zH,zI,zJ, j2, g1, g2]); rw [hKn];clear hKn Kn;simp only [QV,reduceIte,reduceCtorEq,Nat.reduceEqDiff])
     ((repeat refine Ws ?_);refine Wt (by first|rfl|simp only [EV,zF,reduceIte]) ?_)
     (((repeat refine Ws ?_);refine W_skip ?_); simp only [QV,reduceIte,reduceCtorEq,Nat.reduceEqDiff])
     ((repeat refine Ws ?_);refine W_block ?_)
     ((repeat refine Ws ?_);refine W_regionE TO_ok ?_; intro Kn hKn)
     ((simp (maxSteps := 1000000) only [xO_ty, xO_fn, xO_bin, xO_oi, xO_oc, xO_ok, VL,VM,↓VG,reduceIte,reduceCtorEq,zA,zB,zC,zD,zE,zF,zG,zH,zI,zJ, g1, g2, hr']); rw [hKn];clear hKn Kn;simp only [QV,reduceIte,reduceCtorEq,Nat.reduceEqDiff])
     ((repeat refine Ws ?_);refine W_regionE TO_ok ?_; intro Kn hKn)
     ((simp (maxSteps := 1000000) only [xO_ty, xO_fn, xO_bin, xO_oi, xO_oc, xO_ok, VL,VM,↓VG,reduceIte,reduceCtorEq,zA,zB,zC,zD,zE,zF,zG,zH,zI,zJ, g1, g2, hr0, hz']); rw [hKn];clear hKn Kn;simp only [QV,reduceIte,reduceCtorEq,Nat.reduceEqDiff])
     (repeat refine Ws ?_)
     refine W_drawE TO_ok [] (by kernel_rfl) (by kernel_rfl) ?_
     intro Kn hKn
     generalize hi : mkPlan _ = infs
     cbv at hi
     subst hi
     ((simp (maxSteps := 1000000) only [xO_ty, xO_fn, xO_bin, xO_oi, xO_oc, xO_ok, VL,VM,↓VG,reduceIte,reduceCtorEq,zA,zB,zC,zD,zE,zF,zG,zH,zI,zJ, g1, g2, hr0, hw', hA2]); rw [hKn];clear hKn Kn;simp only [QV,reduceIte,reduceCtorEq,Nat.reduceEqDiff])
     ((repeat refine Ws ?_);refine W_regionE TO_ok ?_; intro Kn hKn)
     ((simp (maxSteps := 1000000) only [xO_ty, xO_fn, xO_bin, xO_oi, xO_oc, xO_ok, VL,VM,↓VG,reduceIte,reduceCtorEq,zA,zB,zC,zD,zE,zF,zG,zH,zI,zJ, g1, g2, j3]); rw [hKn];clear hKn Kn;simp only [QV,reduceIte,reduceCtorEq,Nat.reduceEqDiff])
     ((repeat refine Ws ?_);refine W_regionE TO_ok ?_; intro Kn hKn)
     have hskip : servC y plan free i r = none → ((ctAt y i).ramps.take (k + 1)).foldl (stepK y S plan free i) best = bk := fun h => by
      rw [htk, stepK, h]
     by_cases b1 : (raAt y r).bears < (ctAt y i).grams
     ·((simp (maxSteps := 1000000) only [xO_ty, xO_fn, xO_bin, xO_oi, xO_oc, xO_ok, VL,VM,↓VG,reduceIte,reduceCtorEq,zA,zB,zC,zD,zE,zF,zG,zH,zI,zJ, g1, g2, b1]); rw [hKn];clear hKn Kn;simp only [QV,reduceIte,reduceCtorEq,Nat.reduceEqDiff])
      ((repeat refine Ws ?_);refine Wt (by first|rfl|simp only [EV,zF,reduceIte]) ?_)
      (((repeat refine Ws ?_);refine W_exit ?_); simp only [QV,reduceIte,reduceCtorEq,Nat.reduceEqDiff])
      ((repeat refine Ws ?_);refine W_regionE TO_ok ?_; intro Kn hKn)
      ((simp (maxSteps := 1000000) only [xO_ty, xO_fn, xO_bin, xO_oi, xO_oc, xO_ok, VL,VM,↓VG,reduceIte,reduceCtorEq,zA,zB,zC,zD,zE,zF,zG,zH,zI,zJ, j1]); rw [hKn];clear hKn Kn;simp only [QV,reduceIte,reduceCtorEq,Nat.reduceEqDiff])
      exact LoopK.mk (k + 1, _, bk) (by simp; omega) ⟨by simp; omega, (hskip (by rw [hsc, if_pos b1])).symm⟩ ⟨rfl, rfl, rfl, rfl, rfl, rfl, rfl, rfl, rfl, trivial⟩ rfl
     rw [if_neg b1] at hsc
     by_cases b2 : (ctAt y i).until_ < A + (ctAt y i).takes.hi
     ·((simp (maxSteps := 1000000) only [xO_ty, xO_fn, xO_bin, xO_oi, xO_oc, xO_ok, VL,VM,↓VG,reduceIte,reduceCtorEq,zA,zB,zC,zD,zE,zF,zG,zH,zI,zJ, g1, g2, b1, b2]); rw [hKn];clear hKn Kn;simp only [QV,reduceIte,reduceCtorEq,Nat.reduceEqDiff])
      ((repeat refine Ws ?_);refine Wt (by first|rfl|simp only [EV,zF,reduceIte]) ?_)
      (((repeat refine Ws ?_);refine W_exit ?_); simp only [QV,reduceIte,reduceCtorEq,Nat.reduceEqDiff])
      ((repeat refine Ws ?_);refine W_regionE TO_ok ?_; intro Kn hKn)
      ((simp (maxSteps := 1000000) only [xO_ty, xO_fn, xO_bin, xO_oi, xO_oc, xO_ok, VL,VM,↓VG,reduceIte,reduceCtorEq,zA,zB,zC,zD,zE,zF,zG,zH,zI,zJ, j1]); rw [hKn];clear hKn Kn;simp only [QV,reduceIte,reduceCtorEq,Nat.reduceEqDiff])
      exact LoopK.mk (k + 1, _, bk) (by simp; omega) ⟨by simp; omega, (hskip (by rw [hsc, if_pos b2])).symm⟩ ⟨rfl, rfl, rfl, rfl, rfl, rfl, rfl, rfl, rfl, trivial⟩ rfl
     rw [if_neg b2] at hsc
     by_cases b3 : (raAt y r).shut < A + (ctAt y i).takes.hi
     ·((simp (maxSteps := 1000000) only [xO_ty, xO_fn, xO_bin, xO_oi, xO_oc, xO_ok, VL,VM,↓VG,reduceIte,reduceCtorEq,zA,zB,zC,zD,zE,zF,zG,zH,zI,zJ, g1, g2, b1, b2, b3]); rw [hKn];clear hKn Kn;simp only [QV,reduceIte,reduceCtorEq,Nat.reduceEqDiff])
      ((repeat refine Ws ?_);refine Wt (by first|rfl|simp only [EV,zF,reduceIte]) ?_)
      (((repeat refine Ws ?_);refine W_exit ?_); simp only [QV,reduceIte,reduceCtorEq,Nat.reduceEqDiff])
      ((repeat refine Ws ?_);refine W_regionE TO_ok ?_; intro Kn hKn)
      ((simp (maxSteps := 1000000) only [xO_ty, xO_fn, xO_bin, xO_oi, xO_oc, xO_ok, VL,VM,↓VG,reduceIte,reduceCtorEq,zA,zB,zC,zD,zE,zF,zG,zH,zI,zJ, j1]); rw [hKn];clear hKn Kn;simp only [QV,reduceIte,reduceCtorEq,Nat.reduceEqDiff])
      exact LoopK.mk (k + 1, _, bk) (by simp; omega) ⟨by simp; omega, (hskip (by rw [hsc, if_pos b3])).symm⟩ ⟨rfl, rfl, rfl, rfl, rfl, rfl, rfl, rfl, rfl, trivial⟩ rfl
     rw [if_neg b3] at hsc
     ((simp (maxSteps := 1000000) only [xO_ty, xO_fn, xO_bin, xO_oi, xO_oc, xO_ok, VL,VM,↓VG,reduceIte,reduceCtorEq,zA,zB,zC,zD,zE,zF,zG,zH,zI,zJ, g1, g2, b1, b2, b3]); rw [hKn];clear hKn Kn;simp only [QV,reduceIte,reduceCtorEq,Nat.reduceEqDiff])
     ((repeat refine Ws ?_);refine Wf (by first|rfl|simp only [EV,zF,reduceIte]) ?_)
     (((repeat refine Ws ?_);refine W_skip ?_); simp only [QV,reduceIte,reduceCtorEq,Nat.reduceEqDiff])
     have hq : servC y plan free i r = some (plan.set i ⟨r, A⟩, free.set r.toNat (A + (ctAt y i).takes.hi + y.sweep)) := hsc
     have hok := servC_ok hy hsv hlt hr0 hr1 hq
     have hu := servC_un hlt hr0 h1 hq
     simp only at hok hu
     have hc1 : (i * 2 + 2 ≤ (stC plan).length) = True := eq_true (by rw [stC_len]; omega)
     have hc2 : (r.toNat + 1 ≤ free.length) = True := eq_true (by omega)
     ((repeat refine Ws ?_);refine W_regionE TO_ok ?_; intro Kn hKn)
     ((simp (maxSteps := 1000000) only [xO_ty, xO_fn, xO_bin, xO_oi, xO_oc, xO_ok, VL,VM,↓VG,reduceIte,reduceCtorEq,zA,zB,zC,zD,zE,zF,zG,zH,zI,zJ, g1, g2, q16, q8]); rw [hKn];clear hKn Kn;simp only [QV,reduceIte,reduceCtorEq,Nat.reduceEqDiff])
     rw [flat_sts, flat_ints]
     (repeat refine Ws ?_)
     refine W_drawE TO_ok [] (by kernel_rfl) (by kernel_rfl) ?_
     intro Kn hKn
     generalize hi : mkPlan _ = infs
     cbv at hi
     subst hi
     ((simp (maxSteps := 1000000) only [xO_ty, xO_fn, xO_bin, xO_oi, xO_oc, xO_ok, VL,VM,↓VG,reduceIte,reduceCtorEq,zA,zB,zC,zD,zE,zF,zG,zH,zI,zJ, g1, g2, hlt, hrt, hr0, hc1, hc2, j4]); rw [hKn];clear hKn Kn;simp only [QV,reduceIte,reduceCtorEq,Nat.reduceEqDiff])
     rw [st_put hlt, in_put hrt]
     (repeat refine Ws ?_)
     refine W_frzT (t := 18) (id := H1.length + (L2.length + 1)) (n := plan.length) (k := 2) (xs := (plan.set i ⟨r, A⟩).map stP) (by rw [flat_sts, hget, hget]; rfl) rfl (fun x hx => by obtain ⟨z, _, rfl⟩ := List.mem_map.1 hx; rfl) (by simp) ?_
     refine W_frzT (t := 19) (id := H1.length + (L2.length + 2)) (n := free.length) (k := 1) (xs := (free.set r.toNat (A + (ctAt y i).takes.hi + y.sweep)).map intP) (by rw [flat_ints]; simp only; rw [hset, hset, hget, List.set_cons_succ, List.set_cons_zero, hget]; rfl) rfl (fun x hx => by obtain ⟨z, _, rfl⟩ := List.mem_map.1 hx; rfl) (by simp) ?_
     simp only [hset, List.set_cons_succ, List.set_cons_zero]
     ((repeat refine Ws ?_);refine W_regionE TO_ok ?_; intro Kn hKn)
     simp (maxSteps := 1000000) only [xO_ty, xO_fn, xO_bin, xO_oi, xO_oc, xO_ok, VL,VM,↓VG,reduceIte,reduceCtorEq,zA,zB,zC,zD,zE,zF,zG,zH,zI,zJ, g1, g2]
     apply call_eq (f := 80) (fn := Try.f80) (by kernel_rfl) (by rfl)
     ·exact hSx _ _ hok hu _
     generalize hSv : S (plan.set i ⟨r, A⟩) (free.set r.toNat (A + (ctAt y i).takes.hi + y.sweep)) = sv
     have hsvb := fun x h => hSp _ _ hok x (hSv.trans h)
     have hk1 : stepK y S plan free i bk r = sv.elim bk (better y bk) := by
      rw [stepK, hq]
      simp only [hSv]
      cases sv <;> rfl
     cases sv with
     | none =>
      ((simp (maxSteps := 1000000) only [xO_ty, xO_fn, xO_bin, xO_oi, xO_oc, xO_ok, VL,VM,↓VG,reduceIte,reduceCtorEq,zA,zB,zC,zD,zE,zF,zG,zH,zI,zJ, Option.getD_none, Option.isSome_none]); rw [hKn];clear hKn Kn;simp only [QV,reduceIte,reduceCtorEq,Nat.reduceEqDiff])
      (repeat refine Ws ?_)
      refine W_drawE TO_ok [] (by kernel_rfl) (by kernel_rfl) ?_
      intro Kn hKn
      generalize hi : mkPlan _ = infs
      cbv at hi
      subst hi
      ((simp (maxSteps := 1000000) only [xO_ty, xO_fn, xO_bin, xO_oi, xO_oc, xO_ok, VL,VM,↓VG,reduceIte,reduceCtorEq,zA,zB,zC,zD,zE,zF,zG,zH,zI,zJ, g1, g2]); rw [hKn];clear hKn Kn;simp only [QV,reduceIte,reduceCtorEq,Nat.reduceEqDiff])
      ((repeat refine Ws ?_);refine Wf (by first|rfl|simp only [EV,zF,reduceIte]) ?_)
      (((repeat refine Ws ?_);refine W_skip ?_); simp only [QV,reduceIte,reduceCtorEq,Nat.reduceEqDiff])
      ((repeat refine Ws ?_);refine W_regionE TO_ok ?_; intro Kn hKn)
      ((simp (maxSteps := 1000000) only [xO_ty, xO_fn, xO_bin, xO_oi, xO_oc, xO_ok, VL,VM,↓VG,reduceIte,reduceCtorEq,zA,zB,zC,zD,zE,zF,zG,zH,zI,zJ, j1]); rw [hKn];clear hKn Kn;simp only [QV,reduceIte,reduceCtorEq,Nat.reduceEqDiff])
      exact LoopK.mk (k + 1, _, bk) (by simp; omega) ⟨by simp; omega, (htk.trans hk1).symm⟩ ⟨rfl, rfl, rfl, rfl, rfl, rfl, rfl, rfl, rfl, trivial⟩ rfl
     | some x =>
      have hpx := hsvb x rfl
      have hxl := hpx.1
      simp only [Option.elim_some] at hk1
      ((simp (maxSteps := 1000000) only [xO_ty, xO_fn, xO_bin, xO_oi, xO_oc, xO_ok, VL,VM,↓VG,reduceIte,reduceCtorEq,zA,zB,zC,zD,zE,zF,zG,zH,zI,zJ, Option.getD_some, Option.isSome_some]); rw [hKn];clear hKn Kn;simp only [QV,reduceIte,reduceCtorEq,Nat.reduceEqDiff])
      cases bk with
      | none =>
       (repeat refine Ws ?_)
       refine W_drawE TO_ok [] (by kernel_rfl) (by kernel_rfl) ?_
       intro Kn hKn
       generalize hi : mkPlan _ = infs
       cbv at hi
       subst hi
       ((simp (maxSteps := 1000000) only [xO_ty, xO_fn, xO_bin, xO_oi, xO_oc, xO_ok, VL,VM,↓VG,reduceIte,reduceCtorEq,zA,zB,zC,zD,zE,zF,zG,zH,zI,zJ, g1, g2, Option.isSome_none]); rw [hKn];clear hKn Kn;simp only [QV,reduceIte,reduceCtorEq,Nat.reduceEqDiff])
       ((repeat refine Ws ?_);refine Wt (by first|rfl|simp only [EV,zF,reduceIte]) ?_)
       ((repeat refine Ws ?_);refine W_regionE TO_ok ?_; intro Kn hKn)
       ((simp (maxSteps := 1000000) only [xO_ty, xO_fn, xO_bin, xO_oi, xO_oc, xO_ok, VL,VM,↓VG,reduceIte,reduceCtorEq,zA,zB,zC,zD,zE,zF,zG,zH,zI,zJ]); rw [hKn];clear hKn Kn;simp only [QV,reduceIte,reduceCtorEq,Nat.reduceEqDiff])
       ((repeat refine Ws ?_);refine W_regionE TO_ok ?_; intro Kn hKn)
       ((simp (maxSteps := 1000000) only [xO_ty, xO_fn, xO_bin, xO_oi, xO_oc, xO_ok, VL,VM,↓VG,reduceIte,reduceCtorEq,zA,zB,zC,zD,zE,zF,zG,zH,zI,zJ, j1]); rw [hKn];clear hKn Kn;simp only [QV,reduceIte,reduceCtorEq,Nat.reduceEqDiff])
       exact LoopK.mk (k + 1, _, some x) (by simp; omega) ⟨by simp; omega, (htk.trans hk1).symm⟩ ⟨rfl, rfl, rfl, rfl, rfl, rfl, rfl, rfl, rfl, trivial⟩ rfl
      | some b =>
       have hpb := hbkb b rfl
       have hbl := hpb.1
       have hk2 : better y (some b) x = better y (some b) x := rfl
       conv at hk2 => rhs; unfold better
       simp only at hk2
       rw [hk2] at hk1
       (repeat refine Ws ?_)
       refine W_drawE TO_ok [] (by kernel_rfl) (by kernel_rfl) ?_
       intro Kn hKn
       generalize hi : mkPlan _ = infs
       cbv at hi
       subst hi
       simp (maxSteps := 1000000) only [xO_ty, xO_fn, xO_bin, xO_oi, xO_oc, xO_ok, VL,VM,↓VG,reduceIte,reduceCtorEq,zA,zB,zC,zD,zE,zF,zG,zH,zI,zJ, g1, g2, Option.isSome_some, Option.getD_some]
       apply call_d (f := 40) (fn := Try.f40) (by kernel_rfl) (by rfl)
       ·exact last_p hy hpx _
       simp (maxSteps := 1000000) only [xO_ty, xO_fn, xO_bin, xO_oi, xO_oc, xO_ok, VL,VM,↓VG,reduceIte,reduceCtorEq,zA,zB,zC,zD,zE,zF,zG,zH,zI,zJ, g1, g2]
       apply call_d (f := 40) (fn := Try.f40) (by kernel_rfl) (by rfl)
       ·exact last_p hy hpb _
       by_cases e1 : lastV y x < lastV y b
       ·rw [if_pos e1] at hk1
        ((simp (maxSteps := 1000000) only [xO_ty, xO_fn, xO_bin, xO_oi, xO_oc, xO_ok, VL,VM,↓VG,reduceIte,reduceCtorEq,zA,zB,zC,zD,zE,zF,zG,zH,zI,zJ, g1, g2, e1]); rw [hKn];clear hKn Kn;simp only [QV,reduceIte,reduceCtorEq,Nat.reduceEqDiff])
        ((repeat refine Ws ?_);refine Wt (by first|rfl|simp only [EV,zF,reduceIte]) ?_)
        ((repeat refine Ws ?_);refine W_regionE TO_ok ?_; intro Kn hKn)
        ((simp (maxSteps := 1000000) only [xO_ty, xO_fn, xO_bin, xO_oi, xO_oc, xO_ok, VL,VM,↓VG,reduceIte,reduceCtorEq,zA,zB,zC,zD,zE,zF,zG,zH,zI,zJ]); rw [hKn];clear hKn Kn;simp only [QV,reduceIte,reduceCtorEq,Nat.reduceEqDiff])
        ((repeat refine Ws ?_);refine W_regionE TO_ok ?_; intro Kn hKn)
        ((simp (maxSteps := 1000000) only [xO_ty, xO_fn, xO_bin, xO_oi, xO_oc, xO_ok, VL,VM,↓VG,reduceIte,reduceCtorEq,zA,zB,zC,zD,zE,zF,zG,zH,zI,zJ, j1]); rw [hKn];clear hKn Kn;simp only [QV,reduceIte,reduceCtorEq,Nat.reduceEqDiff])
        exact LoopK.mk (k + 1, _, some x) (by simp; omega) ⟨by simp; omega, (htk.trans hk1).symm⟩ ⟨rfl, rfl, rfl, rfl, rfl, rfl, rfl, rfl, rfl, trivial⟩ rfl
       rw [if_neg e1] at hk1
       simp (maxSteps := 1000000) only [xO_ty, xO_fn, xO_bin, xO_oi, xO_oc, xO_ok, VL,VM,↓VG,reduceIte,reduceCtorEq,zA,zB,zC,zD,zE,zF,zG,zH,zI,zJ, g1, g2, e1]
       apply call_d (f := 40) (fn := Try.f40) (by kernel_rfl) (by rfl)
       ·exact last_p hy hpx _
       simp (maxSteps := 1000000) only [xO_ty, xO_fn, xO_bin, xO_oi, xO_oc, xO_ok, VL,VM,↓VG,reduceIte,reduceCtorEq,zA,zB,zC,zD,zE,zF,zG,zH,zI,zJ, g1, g2]
       apply call_d (f := 40) (fn := Try.f40) (by kernel_rfl) (by rfl)
       ·exact last_p hy hpb _
       by_cases e2 : lastV y x = lastV y b
       ·rw [if_pos e2] at hk1
        simp (maxSteps := 1000000) only [xO_ty, xO_fn, xO_bin, xO_oi, xO_oc, xO_ok, VL,VM,↓VG,reduceIte,reduceCtorEq,zA,zB,zC,zD,zE,zF,zG,zH,zI,zJ, g1, g2, e2]
        apply call_d (f := 76) (fn := Try.f76) (by kernel_rfl) (by rfl)
        ·exact before_v x b _ (by omega) (by omega)
        cases e3 : beforeB x b
        ·rw [e3, if_neg (by decide)] at hk1
         ((simp (maxSteps := 1000000) only [xO_ty, xO_fn, xO_bin, xO_oi, xO_oc, xO_ok, VL,VM,↓VG,reduceIte,reduceCtorEq,zA,zB,zC,zD,zE,zF,zG,zH,zI,zJ, g1, g2]); rw [hKn];clear hKn Kn;simp only [QV,reduceIte,reduceCtorEq,Nat.reduceEqDiff])
         ((repeat refine Ws ?_);refine Wf (by first|rfl|simp only [EV,zF,reduceIte]) ?_)
         (((repeat refine Ws ?_);refine W_skip ?_); simp only [QV,reduceIte,reduceCtorEq,Nat.reduceEqDiff])
         ((repeat refine Ws ?_);refine W_regionE TO_ok ?_; intro Kn hKn)
         ((simp (maxSteps := 1000000) only [xO_ty, xO_fn, xO_bin, xO_oi, xO_oc, xO_ok, VL,VM,↓VG,reduceIte,reduceCtorEq,zA,zB,zC,zD,zE,zF,zG,zH,zI,zJ, j1]); rw [hKn];clear hKn Kn;simp only [QV,reduceIte,reduceCtorEq,Nat.reduceEqDiff])
         exact LoopK.mk (k + 1, _, some b) (by simp; omega) ⟨by simp; omega, (htk.trans hk1).symm⟩ ⟨rfl, rfl, rfl, rfl, rfl, rfl, rfl, rfl, rfl, trivial⟩ rfl
        ·rw [e3, if_pos rfl] at hk1
         ((simp (maxSteps := 1000000) only [xO_ty, xO_fn, xO_bin, xO_oi, xO_oc, xO_ok, VL,VM,↓VG,reduceIte,reduceCtorEq,zA,zB,zC,zD,zE,zF,zG,zH,zI,zJ, g1, g2]); rw [hKn];clear hKn Kn;simp only [QV,reduceIte,reduceCtorEq,Nat.reduceEqDiff])
         ((repeat refine Ws ?_);refine Wt (by first|rfl|simp only [EV,zF,reduceIte]) ?_)
         ((repeat refine Ws ?_);refine W_regionE TO_ok ?_; intro Kn hKn)
         ((simp (maxSteps := 1000000) only [xO_ty, xO_fn, xO_bin, xO_oi, xO_oc, xO_ok, VL,VM,↓VG,reduceIte,reduceCtorEq,zA,zB,zC,zD,zE,zF,zG,zH,zI,zJ]); rw [hKn];clear hKn Kn;simp only [QV,reduceIte,reduceCtorEq,Nat.reduceEqDiff])
         ((repeat refine Ws ?_);refine W_regionE TO_ok ?_; intro Kn hKn)
         ((simp (maxSteps := 1000000) only [xO_ty, xO_fn, xO_bin, xO_oi, xO_oc, xO_ok, VL,VM,↓VG,reduceIte,reduceCtorEq,zA,zB,zC,zD,zE,zF,zG,zH,zI,zJ, j1]); rw [hKn];clear hKn Kn;simp only [QV,reduceIte,reduceCtorEq,Nat.reduceEqDiff])
         exact LoopK.mk (k + 1, _, some x) (by simp; omega) ⟨by simp; omega, (htk.trans hk1).symm⟩ ⟨rfl, rfl, rfl, rfl, rfl, rfl, rfl, rfl, rfl, trivial⟩ rfl
       ·rw [if_neg e2] at hk1
        ((simp (maxSteps := 1000000) only [xO_ty, xO_fn, xO_bin, xO_oi, xO_oc, xO_ok, VL,VM,↓VG,reduceIte,reduceCtorEq,zA,zB,zC,zD,zE,zF,zG,zH,zI,zJ, g1, g2, e2]); rw [hKn];clear hKn Kn;simp only [QV,reduceIte,reduceCtorEq,Nat.reduceEqDiff])
        ((repeat refine Ws ?_);refine Wf (by first|rfl|simp only [EV,zF,reduceIte]) ?_)
        (((repeat refine Ws ?_);refine W_skip ?_); simp only [QV,reduceIte,reduceCtorEq,Nat.reduceEqDiff])
        ((repeat refine Ws ?_);refine W_regionE TO_ok ?_; intro Kn hKn)
        ((simp (maxSteps := 1000000) only [xO_ty, xO_fn, xO_bin, xO_oi, xO_oc, xO_ok, VL,VM,↓VG,reduceIte,reduceCtorEq,zA,zB,zC,zD,zE,zF,zG,zH,zI,zJ, j1]); rw [hKn];clear hKn Kn;simp only [QV,reduceIte,reduceCtorEq,Nat.reduceEqDiff])
        exact LoopK.mk (k + 1, _, some b) (by simp; omega) ⟨by simp; omega, (htk.trans hk1).symm⟩ ⟨rfl, rfl, rfl, rfl, rfl, rfl, rfl, rfl, rfl, trivial⟩ rfl
    ·have j2 : ((k : Int) < ((ctAt y i).ramps.length : Int)) = False := eq_false (by omega)
     obtain rfl : k = (ctAt y i).ramps.length := by omega
     rw [List.take_length, ← hrng] at hbk
     ((simp (maxSteps := 1000000) only [xO_ty, xO_fn, xO_bin, xO_oi, xO_oc, xO_ok, VL,VM,↓VG,reduceIte,reduceCtorEq,zA,zB,zC,zD,zE,zF,zG,zH,zI,zJ, j2, g1, g2]); rw [hKn];clear hKn Kn;simp only [QV,reduceIte,reduceCtorEq,Nat.reduceEqDiff])
     ((repeat refine Ws ?_);refine Wf (by first|rfl|simp only [EV,zF,reduceIte]) ?_)
     (((repeat refine Ws ?_);refine W_exit ?_); simp only [QV,reduceIte,reduceCtorEq,Nat.reduceEqDiff])
     ((repeat refine Ws ?_);refine W_regionE TO_ok ?_; intro Kn hKn)
     ((simp (maxSteps := 1000000) only [xO_ty, xO_fn, xO_bin, xO_oi, xO_oc, xO_ok, VL,VM,↓VG,reduceIte,reduceCtorEq,zA,zB,zC,zD,zE,zF,zG,zH,zI,zJ, k1]); rw [hKn];clear hKn Kn;simp only [QV,reduceIte,reduceCtorEq,Nat.reduceEqDiff])
     refine LoopK.mk (i + 1, _, bk) (by simp; omega) ⟨by simp; omega, hbk, hbkb⟩ ⟨rfl, rfl, rfl, rfl, ?_, rfl, rfl, trivial⟩ (by rw [hH1]; simp; rfl)
     rw [hall]; rfl
 ·have k2 : ((i : Int) < (plan.length : Int)) = False := eq_false (by omega)
  obtain rfl : i = plan.length := by omega
  rw [List.take_length]
  ((simp (maxSteps := 1000000) only [xO_ty, xO_fn, xO_bin, xO_oi, xO_oc, xO_ok, VL,VM,↓VG,reduceIte,reduceCtorEq,zA,zB,zC,zD,zE,zF,zG,zH,zI,zJ, k2]); rw [hKn];clear hKn Kn;simp only [QV,reduceIte,reduceCtorEq,Nat.reduceEqDiff])
  ((repeat refine Ws ?_);refine Wf (by first|rfl|simp only [EV,zF,reduceIte]) ?_)
  (((repeat refine Ws ?_);refine W_exit ?_); simp only [QV,reduceIte,reduceCtorEq,Nat.reduceEqDiff])
  rw [← hbe] at hres
  ((repeat refine Ws ?_);refine W_regionE TO_ok ?_; intro Kn hKn)
  cases hall : plan.all placed
  ·rw [hall, if_neg (by decide)] at hres
   ((simp (maxSteps := 1000000) only [xO_ty, xO_fn, xO_bin, xO_oi, xO_oc, xO_ok, VL,VM,↓VG,reduceIte,reduceCtorEq,zA,zB,zC,zD,zE,zF,zG,zH,zI,zJ]); rw [hKn];clear hKn Kn;simp only [QV,reduceIte,reduceCtorEq,Nat.reduceEqDiff])
   ((repeat refine Ws ?_);refine Wf (by first|rfl|simp only [EV,zF,reduceIte]) ?_)
   (((repeat refine Ws ?_);refine W_skip ?_); simp only [QV,reduceIte,reduceCtorEq,Nat.reduceEqDiff])
   ((repeat refine Ws ?_);refine W_regionE TO_ok ?_; intro Kn hKn)
   ((simp (maxSteps := 1000000) only [xO_ty, xO_fn, xO_bin, xO_oi, xO_oc, xO_ok, VL,VM,↓VG,reduceIte,reduceCtorEq,zA,zB,zC,zD,zE,zF,zG,zH,zI,zJ]); rw [hKn];clear hKn Kn;simp only [QV,reduceIte,reduceCtorEq,Nat.reduceEqDiff])
   rw [hres]
   (repeat refine Ws ?_)
   refine W_ret ?_
   try simp only [thenQ, blockQ]
   refine own_ret2O rfl ?_ ?_ (by rfl) (by rfl)
   simp only [get_cons, frz, vtup, Nat.reduceEqDiff, if_true, if_false, reduceIte]
   simp [get_cons, frz]
  ·rw [hall, if_pos rfl] at hres
   ((simp (maxSteps := 1000000) only [xO_ty, xO_fn, xO_bin, xO_oi, xO_oc, xO_ok, VL,VM,↓VG,reduceIte,reduceCtorEq,zA,zB,zC,zD,zE,zF,zG,zH,zI,zJ]); rw [hKn];clear hKn Kn;simp only [QV,reduceIte,reduceCtorEq,Nat.reduceEqDiff])
   ((repeat refine Ws ?_);refine Wt (by first|rfl|simp only [EV,zF,reduceIte]) ?_)
   ((repeat refine Ws ?_);refine W_regionE TO_ok ?_; intro Kn hKn)
   ((simp (maxSteps := 1000000) only [xO_ty, xO_fn, xO_bin, xO_oi, xO_oc, xO_ok, VL,VM,↓VG,reduceIte,reduceCtorEq,zA,zB,zC,zD,zE,zF,zG,zH,zI,zJ]); rw [hKn];clear hKn Kn;simp only [QV,reduceIte,reduceCtorEq,Nat.reduceEqDiff])
   rw [hres]
   (repeat refine Ws ?_)
   refine W_ret ?_
   try simp only [thenQ, blockQ]
   refine own_ret2O rfl ?_ ?_ (by rfl) (by rfl)
   simp only [get_cons, frz, vtup, Nat.reduceEqDiff, if_true, if_false, reduceIte]
   ·rfl
   ·simp [get_cons, frz]
end Go.Proofs.Ythcicaelnchfdaa.Vm
