/- A part of the proofs about the chapter of the doors; it states no condition of its own. -/
import Derived.Test.YtmagiabapakhcaaB47
import Derived.Test.YtmagiabapakhcaaB49
import Derived.Test.YtmagiabapakhcaaB50
set_option linter.unusedVariables false
set_option linter.unusedSimpArgs false
open Int renaming reduceLE → zA, reduceLT → zB, reduceToNat → zC, reduceNeg → zD
open Nat renaming reduceLT → zE, reduceEqDiff → zF, reduceAdd → zG, reduceSub → zH, reduceMul → zI, reduceLeDiff → zJ
/- The reference: kitchens are checked, and what is left of a pair, on values. (Vm) -/
namespace Go.Proofs.Ytmagiabapakhcaa
open Classical in
noncomputable def eatW (k : Kn) (l : List Int) : Int := if h : ∃ v, MostE k (srvOf k l) l.length v then Classical.choose h else 0
theorem eatW_eq {k : Kn} {l : List Int} {v : Int} (h : MostE k (srvOf k l) l.length v) : eatW k l = v := by
 have he : ∃ v, MostE k (srvOf k l) l.length v := ⟨v, h⟩
 unfold eatW
 rw [dif_pos he]
 exact (Classical.choose_spec he).unique h
def restI (k : Kn) (l : List Int) (m g : Nat) : Int := if inP k m g = true then restV k (srvOf k l) m g else 0
end Go.Proofs.Ytmagiabapakhcaa
namespace Go.Proofs.Ytmagiabapakhcaa.Vm
open Go Go.Proofs
theorem eaten_most (k : Kn) (V : KV k) (l : List Int) (hl : Feas k l) (hv : ∃ v, MostE k (srvOf k l) l.length v) (M : Mem) : VC Try.prog 55 [kitV k, intsV l] M (fun r M' => M' = M ∧ r = vi (l.sum + eatW k l)) := by
 refine VC.mono (Eaten_r k V l hl M) ?_
 rintro r M' ⟨h1, v, h2, h3⟩
 refine ⟨h1, ?_⟩
 rw [h2, eatW_eq h3]
structure JSt' where
 i : Nat
 junk : List VObj
set_option maxHeartbeats 1000000 in
set_option maxRecDepth 8000 in
theorem kit_r (k : Kn) (M : Mem) (hl : k.meals.length ≤ 1000000) (hlg : k.gifts.length ≤ 1000000) : VC Try.prog 35 [kitV k] M (fun r M' => M' = M ∧ r = vi (kitErr k)) := by
 have e1 : kitErr k = kitErr k := rfl
 conv at e1 => rhs; unfold kitErr
 refine VC_own' T_ok (f := 35) (fn := Try.f35) (by kernel_rfl) rfl Try.ntmps35 (by rfl) (by rfl) ?_
 ((repeat refine Ws ?_);refine Wr ?_)
 simp (maxSteps := 1000000) only [VL,VM,↓VG,reduceIte,reduceCtorEq,zA,zB,zC,zD,zE,zF,zG,zH,zI,zJ]
 ((repeat refine Ws ?_);refine Wr ?_)
 by_cases a1 : 5 < k.meals.length
 ·have q : ((5 : Int) < (k.meals.length : Int)) = True := eq_true (by omega)
  rw [if_pos a1] at e1
  simp (maxSteps := 1000000) only [VL,VM,↓VG,reduceIte,reduceCtorEq,zA,zB,zC,zD,zE,zF,zG,zH,zI,zJ, q]
  ((repeat refine Ws ?_);refine Wt (by first|rfl|simp only [EV,zF,reduceIte]) ?_)
  ((repeat refine Ws ?_);refine Wr ?_)
  simp (maxSteps := 1000000) only [VL,VM,↓VG,reduceIte,reduceCtorEq,zA,zB,zC,zD,zE,zF,zG,zH,zI,zJ]
  (repeat refine Ws ?_)
  refine W_ret ?_
  try simp only [thenQ, blockQ]
  refine own_ret1 rfl ?_ (by rfl)
  simp only [get_cons, frz, vtup, Nat.reduceEqDiff, if_true, if_false, reduceIte]
  rw [e1]
 have q : ((5 : Int) < (k.meals.length : Int)) = False := eq_false (by omega)
 rw [if_neg a1] at e1
 simp (maxSteps := 1000000) only [VL,VM,↓VG,reduceIte,reduceCtorEq,zA,zB,zC,zD,zE,zF,zG,zH,zI,zJ, q]
 ((repeat refine Ws ?_);refine Wf (by first|rfl|simp only [EV,zF,reduceIte]) ?_)
 ((repeat refine Ws ?_);refine W_skip ?_)
 simp (maxSteps := 1000000) only [VL,VM,↓VG,reduceIte,reduceCtorEq,zA,zB,zC,zD,zE,zF,zG,zH,zI,zJ]
 ((repeat refine Ws ?_);refine Wr ?_)
 simp (maxSteps := 1000000) only [VL,VM,↓VG,reduceIte,reduceCtorEq,zA,zB,zC,zD,zE,zF,zG,zH,zI,zJ]
 ((repeat refine Ws ?_);refine W_block ?_; (repeat refine Ws ?_)); refine W_loopS (fun i : Nat => [(1, .ptr M.H.length 0), (3, vi i)]) (fun _ => ⟨M.H ++ [.obj (kitC k)], M.lg⟩) (fun i => k.meals.length - i) (fun i => i ≤ k.meals.length ∧ (k.meals.take i).all (fun n => inR n 0 10000) = true) 0 ⟨Nat.zero_le _, rfl⟩ ⟨rfl, rfl, trivial⟩ rfl ?_
 rintro i ⟨hi, hal⟩
 have k1 : -9223372036854775808 ≤ (i : Int) + 1 ∧ (i : Int) + 1 < 9223372036854775808 := by omega
 ((repeat refine Ws ?_);refine Wr ?_)
 rcases Nat.lt_or_ge i k.meals.length with hlt | hge
 ·have k2 : ((i : Int) < (k.meals.length : Int)) = True := eq_true (by omega)
  have hx : k.meals[i]? = some k.meals[i] := List.getElem?_eq_getElem hlt
  have hm := List.getElem_mem hlt
  have hst : ∀ (l : List Int) (i : Nat) (x : Int), l[i]? = some x → (l.take (i + 1)).all (fun n => inR n 0 10000) = ((l.take i).all (fun n => inR n 0 10000) && inR x 0 10000) := fun l i x hx => by rw [List.take_add_one, hx]; simp
  have hs := hst _ _ _ hx
  generalize k.meals[i] = n at hx hm hs
  have hx' := map_at (f := intP) hx
  simp (maxSteps := 1000000) only [VL,VM,↓VG,reduceIte,reduceCtorEq,zA,zB,zC,zD,zE,zF,zG,zH,zI,zJ, k2]
  ((repeat refine Ws ?_);refine Wt (by first|rfl|simp only [EV,zF,reduceIte]) ?_)
  ((repeat refine Ws ?_);refine W_skip ?_)
  simp (maxSteps := 1000000) only [VL,VM,↓VG,reduceIte,reduceCtorEq,zA,zB,zC,zD,zE,zF,zG,zH,zI,zJ]
  ((repeat refine Ws ?_);refine W_block ?_)
  ((repeat refine Ws ?_);refine Wr ?_)
  simp (maxSteps := 1000000) only [VL,VM,↓VG,reduceIte,reduceCtorEq,zA,zB,zC,zD,zE,zF,zG,zH,zI,zJ, hx']
  apply call_eq (f := 73) (fn := Try.f73) (by kernel_rfl) (by rfl)
  ·exact within_r _ _ _ _
  cases b1 : inR n 0 10000
  ·have a3 : ¬ (k.meals.all fun n => inR n 0 10000) = true := fun q => by
    have := List.all_eq_true.1 q n hm
    rw [b1] at this; cases this
   rw [if_neg a3] at e1
   simp (maxSteps := 1000000) only [VL,VM,↓VG,reduceIte,reduceCtorEq,zA,zB,zC,zD,zE,zF,zG,zH,zI,zJ]
   ((repeat refine Ws ?_);refine Wt (by first|rfl|simp only [EV,zF,reduceIte]) ?_)
   ((repeat refine Ws ?_);refine Wr ?_)
   simp (maxSteps := 1000000) only [VL,VM,↓VG,reduceIte,reduceCtorEq,zA,zB,zC,zD,zE,zF,zG,zH,zI,zJ]
   (repeat refine Ws ?_)
   refine W_ret ?_
   try simp only [thenQ, blockQ]
   refine own_ret1 rfl ?_ (by rfl)
   simp only [get_cons, frz, vtup, Nat.reduceEqDiff, if_true, if_false, reduceIte]
   rw [e1]
  rw [hal, b1] at hs
  simp (maxSteps := 1000000) only [VL,VM,↓VG,reduceIte,reduceCtorEq,zA,zB,zC,zD,zE,zF,zG,zH,zI,zJ]
  ((repeat refine Ws ?_);refine Wf (by first|rfl|simp only [EV,zF,reduceIte]) ?_)
  ((repeat refine Ws ?_);refine W_skip ?_)
  simp (maxSteps := 1000000) only [VL,VM,↓VG,reduceIte,reduceCtorEq,zA,zB,zC,zD,zE,zF,zG,zH,zI,zJ]
  ((repeat refine Ws ?_);refine Wr ?_)
  simp (maxSteps := 1000000) only [VL,VM,↓VG,reduceIte,reduceCtorEq,zA,zB,zC,zD,zE,zF,zG,zH,zI,zJ, k1]
  exact LoopK.mk (i + 1) (by omega) ⟨by omega, hs⟩ ⟨rfl, rfl, trivial⟩ rfl
 have k2 : ((i : Int) < (k.meals.length : Int)) = False := eq_false (by omega)
 obtain rfl : i = k.meals.length := by omega
 rw [List.take_length] at hal
 rw [if_pos hal] at e1
 simp (maxSteps := 1000000) only [VL,VM,↓VG,reduceIte,reduceCtorEq,zA,zB,zC,zD,zE,zF,zG,zH,zI,zJ, k2]
 ((repeat refine Ws ?_);refine Wf (by first|rfl|simp only [EV,zF,reduceIte]) ?_)
 ((repeat refine Ws ?_);refine W_exit ?_)
 simp (maxSteps := 1000000) only [VL,VM,↓VG,reduceIte,reduceCtorEq,zA,zB,zC,zD,zE,zF,zG,zH,zI,zJ]
 clear hal hge k1 k2 hi
 ((repeat refine Ws ?_);refine Wr ?_)
 by_cases a2 : 5 < k.gifts.length
 ·have q : ((5 : Int) < (k.gifts.length : Int)) = True := eq_true (by omega)
  rw [if_pos a2] at e1
  simp (maxSteps := 1000000) only [VL,VM,↓VG,reduceIte,reduceCtorEq,zA,zB,zC,zD,zE,zF,zG,zH,zI,zJ, q]
  ((repeat refine Ws ?_);refine Wt (by first|rfl|simp only [EV,zF,reduceIte]) ?_)
  ((repeat refine Ws ?_);refine Wr ?_)
  simp (maxSteps := 1000000) only [VL,VM,↓VG,reduceIte,reduceCtorEq,zA,zB,zC,zD,zE,zF,zG,zH,zI,zJ]
  (repeat refine Ws ?_)
  refine W_ret ?_
  try simp only [thenQ, blockQ]
  refine own_ret1 rfl ?_ (by rfl)
  simp only [get_cons, frz, vtup, Nat.reduceEqDiff, if_true, if_false, reduceIte]
  rw [e1]
 have q2 : ((5 : Int) < (k.gifts.length : Int)) = False := eq_false (by omega)
 rw [if_neg a2] at e1
 have kn : -9223372036854775808 ≤ (k.meals.length : Int) - 1 ∧ (k.meals.length : Int) - 1 < 9223372036854775808 := by omega
 simp (maxSteps := 1000000) only [VL,VM,↓VG,reduceIte,reduceCtorEq,zA,zB,zC,zD,zE,zF,zG,zH,zI,zJ, q2]
 ((repeat refine Ws ?_);refine Wf (by first|rfl|simp only [EV,zF,reduceIte]) ?_)
 ((repeat refine Ws ?_);refine W_skip ?_)
 simp (maxSteps := 1000000) only [VL,VM,↓VG,reduceIte,reduceCtorEq,zA,zB,zC,zD,zE,zF,zG,zH,zI,zJ]
 ((repeat refine Ws ?_);refine Wr ?_)
 simp (maxSteps := 1000000) only [VL,VM,↓VG,reduceIte,reduceCtorEq,zA,zB,zC,zD,zE,zF,zG,zH,zI,zJ]
 ((repeat refine Ws ?_);refine W_block ?_; (repeat refine Ws ?_)); refine W_loopS (fun s : JSt' => [(1, .ptr M.H.length 0), (4, vi s.i)]) (fun s => ⟨M.H ++ (.obj (kitC k) :: s.junk), M.lg⟩) (fun s => k.gifts.length - s.i) (fun s => s.i ≤ k.gifts.length ∧ giftsErr k.meals.length k.gifts = giftsErr k.meals.length (k.gifts.drop s.i)) ⟨0, []⟩ ⟨Nat.zero_le _, rfl⟩ ⟨rfl, rfl, trivial⟩ rfl ?_
 rintro ⟨i, junk⟩ ⟨hi, hdr⟩
 simp only at hi hdr
 have k1 : -9223372036854775808 ≤ (i : Int) + 1 ∧ (i : Int) + 1 < 9223372036854775808 := by omega
 ((repeat refine Ws ?_);refine Wr ?_)
 rcases Nat.lt_or_ge i k.gifts.length with hlt | hge
 ·have k2 : ((i : Int) < (k.gifts.length : Int)) = True := eq_true (by omega)
  have hx : k.gifts[i]? = some k.gifts[i] := List.getElem?_eq_getElem hlt
  generalize k.gifts[i] = x at hx
  have hx' := map_at (f := giP) hx
  have hg := giftsErr_drop hx hdr
  have hge0 : giErr k.meals.length x = giErr k.meals.length x := rfl
  conv at hge0 => rhs; unfold giErr
  have hgP : ∀ o : VObj, (M.H ++ (VObj.obj (kitC k) :: (junk ++ [o])))[M.H.length + (1 + junk.length)]? = some o := fun o => by
   rw [hget, show 1 + junk.length = junk.length + 1 by omega, List.getElem?_cons_succ, hget0]; rfl
  have hsP : ∀ o o' : VObj, (M.H ++ (VObj.obj (kitC k) :: (junk ++ [o]))).set (M.H.length + (1 + junk.length)) o' = M.H ++ (VObj.obj (kitC k) :: (junk ++ [o'])) := fun o o' => by
   rw [hset, show 1 + junk.length = junk.length + 1 by omega, List.set_cons_succ, hset0]; rfl
  have hcm : M.H.length + (junk.length + 1) = M.H.length + (1 + junk.length) := by omega
  simp (maxSteps := 1000000) only [VL,VM,↓VG,reduceIte,reduceCtorEq,zA,zB,zC,zD,zE,zF,zG,zH,zI,zJ, k2]
  ((repeat refine Ws ?_);refine Wt (by first|rfl|simp only [EV,zF,reduceIte]) ?_)
  ((repeat refine Ws ?_);refine W_skip ?_)
  simp (maxSteps := 1000000) only [VL,VM,↓VG,reduceIte,reduceCtorEq,zA,zB,zC,zD,zE,zF,zG,zH,zI,zJ]
  ((repeat refine Ws ?_);refine W_block ?_)
  ((repeat refine Ws ?_);refine Wr ?_)
  simp (maxSteps := 1000000) only [VL,VM,↓VG,reduceIte,reduceCtorEq,zA,zB,zC,zD,zE,zF,zG,zH,zI,zJ, hx', hcm, hgP, hsP]
  have fin : giErr k.meals.length x ≠ 0 → kitErr k = giErr k.meals.length x := fun q => by rw [e1, hg, if_neg q]
  by_cases b1 : (inR x.from_ 0 ((k.meals.length : Int) - 1) && inR x.keeps 0 ((k.meals.length : Int) - 1)) = true
  rotate_left
  ·rw [if_neg b1] at hge0
   have fin2 := fin (by rw [hge0]; decide)
   (repeat refine Ws ?_)
   refine W_then [(57, vb true)] ⟨M.H ++ (.obj (kitC k) :: (junk ++ [.obj [vi x.from_, vi x.keeps, vi x.portions]])), M.lg⟩ ?_ ?_
   ·((repeat refine Ws ?_);refine Wr ?_)
    simp (maxSteps := 1000000) only [VL,VM,↓VG,reduceIte,reduceCtorEq,zA,zB,zC,zD,zE,zF,zG,zH,zI,zJ, hgP, kn]
    apply call_eq (f := 73) (fn := Try.f73) (by kernel_rfl) (by rfl)
    ·exact within_r _ _ _ _
    cases b2 : inR x.from_ 0 ((k.meals.length : Int) - 1)
    ·simp (maxSteps := 1000000) only [VL,VM,↓VG,reduceIte,reduceCtorEq,zA,zB,zC,zD,zE,zF,zG,zH,zI,zJ]
     exact ⟨rfl, trivial⟩
    ·have b3 : inR x.keeps 0 ((k.meals.length : Int) - 1) = false := by
      rw [b2, Bool.true_and] at b1
      exact Bool.eq_false_iff.2 b1
     simp (maxSteps := 1000000) only [VL,VM,↓VG,reduceIte,reduceCtorEq,zA,zB,zC,zD,zE,zF,zG,zH,zI,zJ, hgP, kn]
     apply call_eq (f := 73) (fn := Try.f73) (by kernel_rfl) (by rfl)
     ·exact within_r _ _ _ _
     simp (maxSteps := 1000000) only [VL,VM,↓VG,reduceIte,reduceCtorEq,zA,zB,zC,zD,zE,zF,zG,zH,zI,zJ, b3]
     exact ⟨rfl, trivial⟩
   intro e' hS
   refine WCode.weak (e' := [(57, vb true)]) ?_ (Sub.ok hS)
   ((repeat refine Ws ?_);refine Wt (by first|rfl|simp only [EV,zF,reduceIte]) ?_)
   ((repeat refine Ws ?_);refine Wr ?_)
   simp (maxSteps := 1000000) only [VL,VM,↓VG,reduceIte,reduceCtorEq,zA,zB,zC,zD,zE,zF,zG,zH,zI,zJ]
   (repeat refine Ws ?_)
   refine W_ret ?_
   try simp only [thenQ, blockQ]
   refine own_ret1 rfl ?_ (by rfl)
   simp only [get_cons, frz, vtup, Nat.reduceEqDiff, if_true, if_false, reduceIte]
   rw [fin2, hge0]
  rw [if_pos b1] at hge0
  obtain ⟨b2, b3⟩ := Bool.and_eq_true _ _ ▸ b1
  ((repeat refine Ws ?_);refine Wr ?_)
  simp (maxSteps := 1000000) only [VL,VM,↓VG,reduceIte,reduceCtorEq,zA,zB,zC,zD,zE,zF,zG,zH,zI,zJ, hgP, kn]
  apply call_eq (f := 73) (fn := Try.f73) (by kernel_rfl) (by rfl)
  ·exact within_r _ _ _ _
  simp (maxSteps := 1000000) only [VL,VM,↓VG,reduceIte,reduceCtorEq,zA,zB,zC,zD,zE,zF,zG,zH,zI,zJ, hgP, kn, b2]
  apply call_eq (f := 73) (fn := Try.f73) (by kernel_rfl) (by rfl)
  ·exact within_r _ _ _ _
  simp (maxSteps := 1000000) only [VL,VM,↓VG,reduceIte,reduceCtorEq,zA,zB,zC,zD,zE,zF,zG,zH,zI,zJ, b3]
  ((repeat refine Ws ?_);refine Wf (by first|rfl|simp only [EV,zF,reduceIte]) ?_)
  ((repeat refine Ws ?_);refine W_skip ?_)
  simp (maxSteps := 1000000) only [VL,VM,↓VG,reduceIte,reduceCtorEq,zA,zB,zC,zD,zE,zF,zG,zH,zI,zJ]
  ((repeat refine Ws ?_);refine Wr ?_)
  by_cases b4 : x.keeps < x.from_
  ·have q : (x.keeps < x.from_) = True := eq_true b4
   rw [if_pos b4] at hge0
   have fin2 := fin (by rw [hge0]; decide)
   simp (maxSteps := 1000000) only [VL,VM,↓VG,reduceIte,reduceCtorEq,zA,zB,zC,zD,zE,zF,zG,zH,zI,zJ, hgP, q]
   ((repeat refine Ws ?_);refine Wt (by first|rfl|simp only [EV,zF,reduceIte]) ?_)
   ((repeat refine Ws ?_);refine Wr ?_)
   simp (maxSteps := 1000000) only [VL,VM,↓VG,reduceIte,reduceCtorEq,zA,zB,zC,zD,zE,zF,zG,zH,zI,zJ]
   (repeat refine Ws ?_)
   refine W_ret ?_
   try simp only [thenQ, blockQ]
   refine own_ret1 rfl ?_ (by rfl)
   simp only [get_cons, frz, vtup, Nat.reduceEqDiff, if_true, if_false, reduceIte]
   rw [fin2, hge0]
  have q : (x.keeps < x.from_) = False := eq_false b4
  rw [if_neg b4] at hge0
  simp (maxSteps := 1000000) only [VL,VM,↓VG,reduceIte,reduceCtorEq,zA,zB,zC,zD,zE,zF,zG,zH,zI,zJ, hgP, q]
  ((repeat refine Ws ?_);refine Wf (by first|rfl|simp only [EV,zF,reduceIte]) ?_)
  ((repeat refine Ws ?_);refine W_skip ?_)
  simp (maxSteps := 1000000) only [VL,VM,↓VG,reduceIte,reduceCtorEq,zA,zB,zC,zD,zE,zF,zG,zH,zI,zJ]
  ((repeat refine Ws ?_);refine Wr ?_)
  simp (maxSteps := 1000000) only [VL,VM,↓VG,reduceIte,reduceCtorEq,zA,zB,zC,zD,zE,zF,zG,zH,zI,zJ, hgP]
  apply call_eq (f := 73) (fn := Try.f73) (by kernel_rfl) (by rfl)
  ·exact within_r _ _ _ _
  cases b5 : inR x.portions 0 10000
  ·rw [b5, if_neg (by decide)] at hge0
   have fin2 := fin (by rw [hge0]; decide)
   simp (maxSteps := 1000000) only [VL,VM,↓VG,reduceIte,reduceCtorEq,zA,zB,zC,zD,zE,zF,zG,zH,zI,zJ]
   ((repeat refine Ws ?_);refine Wt (by first|rfl|simp only [EV,zF,reduceIte]) ?_)
   ((repeat refine Ws ?_);refine Wr ?_)
   simp (maxSteps := 1000000) only [VL,VM,↓VG,reduceIte,reduceCtorEq,zA,zB,zC,zD,zE,zF,zG,zH,zI,zJ]
   (repeat refine Ws ?_)
   refine W_ret ?_
   try simp only [thenQ, blockQ]
   refine own_ret1 rfl ?_ (by rfl)
   simp only [get_cons, frz, vtup, Nat.reduceEqDiff, if_true, if_false, reduceIte]
   rw [fin2, hge0]
  rw [b5, if_pos rfl] at hge0
  rw [hge0, if_pos rfl] at hg
  simp (maxSteps := 1000000) only [VL,VM,↓VG,reduceIte,reduceCtorEq,zA,zB,zC,zD,zE,zF,zG,zH,zI,zJ]
  ((repeat refine Ws ?_);refine Wf (by first|rfl|simp only [EV,zF,reduceIte]) ?_)
  ((repeat refine Ws ?_);refine W_skip ?_)
  simp (maxSteps := 1000000) only [VL,VM,↓VG,reduceIte,reduceCtorEq,zA,zB,zC,zD,zE,zF,zG,zH,zI,zJ]
  ((repeat refine Ws ?_);refine Wr ?_)
  simp (maxSteps := 1000000) only [VL,VM,↓VG,reduceIte,reduceCtorEq,zA,zB,zC,zD,zE,zF,zG,zH,zI,zJ, k1]
  exact LoopK.mk ⟨i + 1, junk ++ [.obj [vi x.from_, vi x.keeps, vi x.portions]]⟩ (by simp only; omega) ⟨by simp only; omega, hg⟩ ⟨rfl, rfl, trivial⟩ rfl
 have k2 : ((i : Int) < (k.gifts.length : Int)) = False := eq_false (by omega)
 obtain rfl : i = k.gifts.length := by omega
 rw [List.drop_length] at hdr
 simp (maxSteps := 1000000) only [VL,VM,↓VG,reduceIte,reduceCtorEq,zA,zB,zC,zD,zE,zF,zG,zH,zI,zJ, k2]
 ((repeat refine Ws ?_);refine Wf (by first|rfl|simp only [EV,zF,reduceIte]) ?_)
 ((repeat refine Ws ?_);refine W_exit ?_)
 simp (maxSteps := 1000000) only [VL,VM,↓VG,reduceIte,reduceCtorEq,zA,zB,zC,zD,zE,zF,zG,zH,zI,zJ]
 ((repeat refine Ws ?_);refine Wr ?_)
 simp (maxSteps := 1000000) only [VL,VM,↓VG,reduceIte,reduceCtorEq,zA,zB,zC,zD,zE,zF,zG,zH,zI,zJ]
 (repeat refine Ws ?_)
 refine W_ret ?_
 try simp only [thenQ, blockQ]
 refine own_ret1 rfl ?_ (by rfl)
 simp only [get_cons, frz, vtup, Nat.reduceEqDiff, if_true, if_false, reduceIte]
 rw [e1, hdr]; rfl
set_option maxHeartbeats 2000000 in
set_option maxRecDepth 8000 in
theorem rest_r (k : Kn) (V : KV k) (l : List Int) (hbd : ∀ x ∈ l, 0 ≤ x ∧ x ≤ 10000) (hlt0 : l.length < k.meals.length * k.gifts.length) (M : Mem) : VC Try.prog 86 [kitV k, intsV l] M (fun r M' => M' = M ∧ r = vi (restI k l (l.length / k.gifts.length) (l.length % k.gifts.length))) := by
 have vm1 := V.m1
 have vg1 := V.g1
 have hP25 : k.meals.length * k.gifts.length ≤ 25 := Nat.mul_le_mul vm1 vg1
 have hG : 0 < k.gifts.length := by
  rcases Nat.eq_zero_or_pos k.gifts.length with e | e
  ·rw [e, Nat.mul_zero] at hlt0; omega
  ·exact e
 obtain ⟨nG, hnG⟩ : ∃ nG, nG = k.gifts.length := ⟨_, rfl⟩
 obtain ⟨p, hpl⟩ : ∃ p, p = l.length := ⟨_, rfl⟩
 rw [← hnG, ← hpl]
 obtain ⟨m, hm⟩ : ∃ m, m = p / nG := ⟨_, rfl⟩
 obtain ⟨g, hg⟩ : ∃ g, g = p % nG := ⟨_, rfl⟩
 rw [← hm, ← hg]
 have hgl : g < nG := by rw [hg]; exact Nat.mod_lt _ (by omega)
 have hml : m < k.meals.length := by rw [hm, hnG]; exact Nat.div_lt_of_lt_mul (by rw [Nat.mul_comm]; omega)
 have hpp : p = m * nG + g := by rw [hm, hg, Nat.mul_comm]; exact (Nat.div_add_mod p nG).symm
 have hmI : (p : Int) / (nG : Int) = (m : Int) := by rw [hm]; push_cast; rfl
 have hgI : (p : Int) % (nG : Int) = (g : Int) := by rw [hg]; push_cast; rfl
 have hrest : restV k (srvOf k l) m g = min ((giAt k g).portions - goneL l nG g p) (mealAt k m - eatL l nG m p) := by
  unfold restV
  rw [hnG, hpl, gone_len (by omega) (by omega), eat_len (by omega) hml]
 have d0 : (0 ≤ (p : Int) ∧ (p : Int) < 9223372036854775808) := by omega
 have d1 : (1 ≤ (nG : Int)) = True := eq_true (by omega)
 have d2 : (0 : Int) < (nG : Int) := by omega
 have hrem := i_rem 3 (p : Int) (nG : Int) (by omega) d2
 rw [hgI] at hrem
 have hxg' := giAt_get (k := k) (g := g) (by omega)
 have hxm' := mealAt_get (k := k) (m := m) hml
 have cA := giAt_V V (g := g) (by omega)
 have cA0 := cA.p0
 have cA1 := cA.p1
 have cB := mealAt_V V (m := m) hml
 refine VC_own' T_ok (f := 86) (fn := Try.f86) (by kernel_rfl) rfl Try.ntmps86 (by rfl) (by rfl) ?_
 ((repeat refine Ws ?_);refine Wr ?_)
 simp (maxSteps := 1000000) only [VL,VM,↓VG,reduceIte,reduceCtorEq,zA,zB,zC,zD,zE,zF,zG,zH,zI,zJ]
 ((repeat refine Ws ?_);refine Wr ?_)
 simp (maxSteps := 1000000) only [VL,VM,↓VG,reduceIte,reduceCtorEq,zA,zB,zC,zD,zE,zF,zG,zH,zI,zJ, ← hpl, ← hnG]
 (repeat refine Ws ?_)
 refine W_drawP T_ok [] (by kernel_rfl) (by kernel_rfl) ?_
 generalize hi : mkPlan _ = infs
 cbv at hi
 subst hi
 simp (maxSteps := 1000000) only [VL,VM,↓VG,reduceIte,reduceCtorEq,zA,zB,zC,zD,zE,zF,zG,zH,zI,zJ, d0, d1, hrem, hmI]
 (repeat refine Ws ?_)
 refine W_drawP T_ok [] (by kernel_rfl) (by kernel_rfl) ?_
 generalize hi : mkPlan _ = infs
 cbv at hi
 subst hi
 simp (maxSteps := 1000000) only [VL,VM,↓VG,reduceIte,reduceCtorEq,zA,zB,zC,zD,zE,zF,zG,zH,zI,zJ, hxg']
 apply call_d (f := 73) (fn := Try.f73) (by kernel_rfl) (by rfl)
 ·exact within_r _ _ _ _
 cases hin : inR (m : Int) (giAt k g).from_ (giAt k g).keeps
 ·have hin' : inP k m g = false := hin
  simp (maxSteps := 1000000) only [VL,VM,↓VG,reduceIte,reduceCtorEq,zA,zB,zC,zD,zE,zF,zG,zH,zI,zJ]
  ((repeat refine Ws ?_);refine Wt (by first|rfl|simp only [EV,zF,reduceIte]) ?_)
  ((repeat refine Ws ?_);refine Wr ?_)
  simp (maxSteps := 1000000) only [VL,VM,↓VG,reduceIte,reduceCtorEq,zA,zB,zC,zD,zE,zF,zG,zH,zI,zJ]
  (repeat refine Ws ?_)
  refine W_ret ?_
  try simp only [thenQ, blockQ]
  refine own_ret1 rfl ?_ (by rfl)
  simp only [get_cons, frz, vtup, Nat.reduceEqDiff, if_true, if_false, reduceIte]
  unfold restI
  rw [hin', if_neg (by decide)]
 have hin' : inP k m g = true := hin
 simp (maxSteps := 1000000) only [VL,VM,↓VG,reduceIte,reduceCtorEq,zA,zB,zC,zD,zE,zF,zG,zH,zI,zJ]
 ((repeat refine Ws ?_);refine Wf (by first|rfl|simp only [EV,zF,reduceIte]) ?_)
 ((repeat refine Ws ?_);refine W_skip ?_)
 simp (maxSteps := 1000000) only [VL,VM,↓VG,reduceIte,reduceCtorEq,zA,zB,zC,zD,zE,zF,zG,zH,zI,zJ]
 (repeat refine Ws ?_)
 refine W_drawP T_ok [] (by kernel_rfl) (by kernel_rfl) ?_
 generalize hi : mkPlan _ = infs
 cbv at hi
 subst hi
 simp (maxSteps := 1000000) only [VL,VM,↓VG,reduceIte,reduceCtorEq,zA,zB,zC,zD,zE,zF,zG,zH,zI,zJ, hxg', hxm']
 ((repeat refine Ws ?_);refine Wr ?_)
 simp (maxSteps := 1000000) only [VL,VM,↓VG,reduceIte,reduceCtorEq,zA,zB,zC,zD,zE,zF,zG,zH,zI,zJ]
 ((repeat refine Ws ?_);refine W_block ?_; (repeat refine Ws ?_)); refine W_loopS (fun i : Nat => [(1, intsV l), (5, vi nG), (6, vi p), (7, vi m), (8, vi g), (9, vi ((giAt k g).portions - goneL l nG g i)), (10, vi (mealAt k m - eatL l nG m i)), (11, vi i)]) (fun _ => ⟨M.H ++ [.obj (kitC k)], M.lg⟩) (fun i => p - i) (fun i => i ≤ p) 0 (Nat.zero_le _) ⟨rfl, rfl, rfl, rfl, rfl, ?_, ?_, rfl, trivial⟩ rfl ?_
 ·simp [get_cons, goneL, sumTo_zero]
 ·simp [get_cons, eatL, sumTo_zero]
 ·intro i hi
  have k1 : -9223372036854775808 ≤ (i : Int) + 1 ∧ (i : Int) + 1 < 9223372036854775808 := by omega
  have bA := goneL_bd hbd nG g i
  have bB := eatL_bd hbd nG m i
  have sA := goneL_succ l nG g i
  have sB := eatL_succ l nG m i
  ((repeat refine Ws ?_);refine Wr ?_)
  rcases Nat.lt_or_ge i p with hlt | hge
  ·have k2 : ((i : Int) < (p : Int)) = True := eq_true (by omega)
   have hx : l[i]? = some (l.getD i 0) := by rw [List.getD_eq_getElem?_getD, List.getElem?_eq_getElem (by omega)]; rfl
   have hxb := hbd _ (List.mem_of_getElem? hx)
   have hx' := map_at (f := intP) hx
   have rI : (i : Int) % (nG : Int) = ((i % nG : Nat) : Int) := by push_cast; rfl
   have qI : (i : Int) / (nG : Int) = ((i / nG : Nat) : Int) := by push_cast; rfl
   have hr1 := i_rem 3 (i : Int) (nG : Int) (by omega) d2
   rw [rI] at hr1
   have d3 : (0 ≤ (i : Int) ∧ (i : Int) < 9223372036854775808) := by omega
   have kA : -9223372036854775808 ≤ (giAt k g).portions - goneL l nG g i - l.getD i 0 ∧ (giAt k g).portions - goneL l nG g i - l.getD i 0 < 9223372036854775808 := by omega
   have kB : -9223372036854775808 ≤ mealAt k m - eatL l nG m i - l.getD i 0 ∧ mealAt k m - eatL l nG m i - l.getD i 0 < 9223372036854775808 := by omega
   generalize goneL l nG g i = ga at sA kA ⊢
   generalize eatL l nG m i = ea at sB kB ⊢
   generalize l.getD i 0 = x at sA sB hx' kA kB
   simp (maxSteps := 1000000) only [VL,VM,↓VG,reduceIte,reduceCtorEq,zA,zB,zC,zD,zE,zF,zG,zH,zI,zJ, k2]
   ((repeat refine Ws ?_);refine Wt (by first|rfl|simp only [EV,zF,reduceIte]) ?_)
   ((repeat refine Ws ?_);refine W_skip ?_)
   simp (maxSteps := 1000000) only [VL,VM,↓VG,reduceIte,reduceCtorEq,zA,zB,zC,zD,zE,zF,zG,zH,zI,zJ]
   ((repeat refine Ws ?_);refine W_block ?_)
   ((repeat refine Ws ?_);refine Wr ?_)
   by_cases c1 : i % nG = g
   ·have e1 : (((i % nG : Nat) : Int) = (g : Int)) = True := eq_true (by omega)
    simp (maxSteps := 1000000) only [VL,VM,↓VG,reduceIte,reduceCtorEq,zA,zB,zC,zD,zE,zF,zG,zH,zI,zJ, hr1, e1]
    ((repeat refine Ws ?_);refine Wt (by first|rfl|simp only [EV,zF,reduceIte]) ?_)
    ((repeat refine Ws ?_);refine Wr ?_)
    simp (maxSteps := 1000000) only [VL,VM,↓VG,reduceIte,reduceCtorEq,zA,zB,zC,zD,zE,zF,zG,zH,zI,zJ, hx', kA]
    rw [if_pos c1] at sA
    ((repeat refine Ws ?_);refine Wr ?_)
    by_cases c2 : i / nG = m
    ·have e2 : (((i / nG : Nat) : Int) = (m : Int)) = True := eq_true (by omega)
     simp (maxSteps := 1000000) only [VL,VM,↓VG,reduceIte,reduceCtorEq,zA,zB,zC,zD,zE,zF,zG,zH,zI,zJ, qI, d3, d1, e2]
     ((repeat refine Ws ?_);refine Wt (by first|rfl|simp only [EV,zF,reduceIte]) ?_)
     ((repeat refine Ws ?_);refine Wr ?_)
     simp (maxSteps := 1000000) only [VL,VM,↓VG,reduceIte,reduceCtorEq,zA,zB,zC,zD,zE,zF,zG,zH,zI,zJ, hx', kB]
     rw [if_pos c2] at sB
     ((repeat refine Ws ?_);refine Wr ?_)
     simp (maxSteps := 1000000) only [VL,VM,↓VG,reduceIte,reduceCtorEq,zA,zB,zC,zD,zE,zF,zG,zH,zI,zJ, k1]
     refine LoopK.mk (i + 1) (by omega) (by omega) ⟨rfl, rfl, rfl, rfl, rfl, ?_, ?_, rfl, trivial⟩ rfl
     ·rw [sA, ← Int.sub_sub]; rfl
     ·rw [sB, ← Int.sub_sub]; rfl
    have e2 : (((i / nG : Nat) : Int) = (m : Int)) = False := eq_false (by omega)
    simp (maxSteps := 1000000) only [VL,VM,↓VG,reduceIte,reduceCtorEq,zA,zB,zC,zD,zE,zF,zG,zH,zI,zJ, qI, d3, d1, e2]
    ((repeat refine Ws ?_);refine Wf (by first|rfl|simp only [EV,zF,reduceIte]) ?_)
    ((repeat refine Ws ?_);refine W_skip ?_)
    simp (maxSteps := 1000000) only [VL,VM,↓VG,reduceIte,reduceCtorEq,zA,zB,zC,zD,zE,zF,zG,zH,zI,zJ]
    rw [if_neg c2] at sB
    ((repeat refine Ws ?_);refine Wr ?_)
    simp (maxSteps := 1000000) only [VL,VM,↓VG,reduceIte,reduceCtorEq,zA,zB,zC,zD,zE,zF,zG,zH,zI,zJ, k1]
    refine LoopK.mk (i + 1) (by omega) (by omega) ⟨rfl, rfl, rfl, rfl, rfl, ?_, ?_, rfl, trivial⟩ rfl
    ·rw [sA, ← Int.sub_sub]; rfl
    ·rw [sB, Int.add_zero]; rfl
   have e1 : (((i % nG : Nat) : Int) = (g : Int)) = False := eq_false (by omega)
   simp (maxSteps := 1000000) only [VL,VM,↓VG,reduceIte,reduceCtorEq,zA,zB,zC,zD,zE,zF,zG,zH,zI,zJ, hr1, e1]
   ((repeat refine Ws ?_);refine Wf (by first|rfl|simp only [EV,zF,reduceIte]) ?_)
   ((repeat refine Ws ?_);refine W_skip ?_)
   simp (maxSteps := 1000000) only [VL,VM,↓VG,reduceIte,reduceCtorEq,zA,zB,zC,zD,zE,zF,zG,zH,zI,zJ]
   rw [if_neg c1] at sA
   ((repeat refine Ws ?_);refine Wr ?_)
   by_cases c2 : i / nG = m
   ·have e2 : (((i / nG : Nat) : Int) = (m : Int)) = True := eq_true (by omega)
    simp (maxSteps := 1000000) only [VL,VM,↓VG,reduceIte,reduceCtorEq,zA,zB,zC,zD,zE,zF,zG,zH,zI,zJ, qI, d3, d1, e2]
    ((repeat refine Ws ?_);refine Wt (by first|rfl|simp only [EV,zF,reduceIte]) ?_)
    ((repeat refine Ws ?_);refine Wr ?_)
    simp (maxSteps := 1000000) only [VL,VM,↓VG,reduceIte,reduceCtorEq,zA,zB,zC,zD,zE,zF,zG,zH,zI,zJ, hx', kB]
    rw [if_pos c2] at sB
    ((repeat refine Ws ?_);refine Wr ?_)
    simp (maxSteps := 1000000) only [VL,VM,↓VG,reduceIte,reduceCtorEq,zA,zB,zC,zD,zE,zF,zG,zH,zI,zJ, k1]
    refine LoopK.mk (i + 1) (by omega) (by omega) ⟨rfl, rfl, rfl, rfl, rfl, ?_, ?_, rfl, trivial⟩ rfl
    ·rw [sA, Int.add_zero]; rfl
    ·rw [sB, ← Int.sub_sub]; rfl
   have e2 : (((i / nG : Nat) : Int) = (m : Int)) = False := eq_false (by omega)
   simp (maxSteps := 1000000) only [VL,VM,↓VG,reduceIte,reduceCtorEq,zA,zB,zC,zD,zE,zF,zG,zH,zI,zJ, qI, d3, d1, e2]
   ((repeat refine Ws ?_);refine Wf (by first|rfl|simp only [EV,zF,reduceIte]) ?_)
   ((repeat refine Ws ?_);refine W_skip ?_)
   simp (maxSteps := 1000000) only [VL,VM,↓VG,reduceIte,reduceCtorEq,zA,zB,zC,zD,zE,zF,zG,zH,zI,zJ]
   rw [if_neg c2] at sB
   ((repeat refine Ws ?_);refine Wr ?_)
   simp (maxSteps := 1000000) only [VL,VM,↓VG,reduceIte,reduceCtorEq,zA,zB,zC,zD,zE,zF,zG,zH,zI,zJ, k1]
   refine LoopK.mk (i + 1) (by omega) (by omega) ⟨rfl, rfl, rfl, rfl, rfl, ?_, ?_, rfl, trivial⟩ rfl
   ·rw [sA, Int.add_zero]; rfl
   ·rw [sB, Int.add_zero]; rfl
  have k2 : ((i : Int) < (p : Int)) = False := eq_false (by omega)
  obtain rfl : i = p := by omega
  simp (maxSteps := 1000000) only [VL,VM,↓VG,reduceIte,reduceCtorEq,zA,zB,zC,zD,zE,zF,zG,zH,zI,zJ, k2]
  ((repeat refine Ws ?_);refine Wf (by first|rfl|simp only [EV,zF,reduceIte]) ?_)
  ((repeat refine Ws ?_);refine W_exit ?_)
  simp (maxSteps := 1000000) only [VL,VM,↓VG,reduceIte,reduceCtorEq,zA,zB,zC,zD,zE,zF,zG,zH,zI,zJ]
  ((repeat refine Ws ?_);refine Wr ?_)
  simp (maxSteps := 1000000) only [VL,VM,↓VG,reduceIte,reduceCtorEq,zA,zB,zC,zD,zE,zF,zG,zH,zI,zJ]
  (repeat refine Ws ?_)
  refine W_ret ?_
  try simp only [thenQ, blockQ]
  refine own_ret1 rfl ?_ (by rfl)
  simp only [get_cons, frz, vtup, Nat.reduceEqDiff, if_true, if_false, reduceIte]
  unfold restI
  rw [if_pos hin', hrest]
end Go.Proofs.Ytmagiabapakhcaa.Vm

/- The reference: Feed, on values. (Vm) -/
namespace Go.Proofs.Ytmagiabapakhcaa
section
variable {k : Kn}
theorem most_exists (V : KV k) {S : List (List Int)} (H : Srv k S) (F : Fits k S) (p : Nat) : ∃ v, MostE k S p v := by
 have hrm : ∀ m g, 0 ≤ (if m * k.gifts.length + g < p then (0 : Int) else 1073741824) ∧ (if m * k.gifts.length + g < p then (0 : Int) else 1073741824) ≤ 1073741824 := fun m g => by split <;> omega
 have hw := tabWs_ok (room := fun m g => if m * k.gifts.length + g < p then 0 else 1073741824) V H F hrm
 obtain ⟨sq, nn⟩ := tabW_ok _ _ rfl hw
 have hm := mfv_MF (by omega) sq fun i j _ _ => (nn i j).1
 have hb := tab_bip V H F (room := fun m g => if m * k.gifts.length + g < p then 0 else 1073741824) hrm
 obtain ⟨⟨T, hT, e⟩, h2⟩ := bip_MF hb hm
 have iff := fun T => tok_ext (T := T) V H (p := p) (r := fun m g => if inP k m g then (if m * k.gifts.length + g < p then 0 else 1073741824) else 0) (fun m g hm hg => by
  by_cases h1 : m * k.gifts.length + g < p
  ·simp [h1]
  ·cases h3 : inP k m g <;> simp [h1]) fun m g hm hg ho => by
  simp only [not_or, Bool.not_eq_false] at ho
  rw [ho.2, if_pos rfl, if_neg ho.1]
  omega
 exact ⟨_, ⟨T, (iff T).1 hT, e⟩, fun T' hT' => h2 T' ((iff T').2 hT')⟩
noncomputable def feedT (k : Kn) (i : Nat) : Int := at2 (feedS k) (i / k.gifts.length) (i % k.gifts.length)
theorem feedL_next (i : Nat) : feedL k (i + 1) = feedL k i ++ [feedT k i] := feedL_succ i
theorem feedL_feas (V : KV k) {i : Nat} (hi : i ≤ k.meals.length * k.gifts.length) : Feas k (feedL k i) :=
 ⟨by rw [feedL_len]; exact hi, feedL_bd V i, by rw [feedL_srv V hi]; exact (feedP_Z V i hi).i.ok.fits⟩
theorem feed_pair (V : KV k) {i : Nat} (hi : i < k.meals.length * k.gifts.length) : 0 ≤ feedT k i ∧ feedT k i ≤ restI k (feedL k i) (i / k.gifts.length) (i % k.gifts.length) ∧ restI k (feedL k i) (i / k.gifts.length) (i % k.gifts.length) ≤ 10000 ∧ ∀ n, 0 < n → n ≤ restI k (feedL k i) (i / k.gifts.length) (i % k.gifts.length) → Feas k (feedL k i ++ [n]) ∧ (∃ v, MostE k (srvOf k (feedL k i ++ [n])) (feedL k i ++ [n]).length v) ∧ (feedT k i < n → (feedL k i ++ [n]).sum + eatW k (feedL k i ++ [n]) < fedV k (srv0 k) (-1) 0) ∧ (n = feedT k i → (feedL k i ++ [n]).sum + eatW k (feedL k i ++ [n]) = fedV k (srv0 k) (-1) 0) := by
 have hG : 0 < k.gifts.length := by
  rcases Nat.eq_zero_or_pos k.gifts.length with e | e
  ·rw [e, Nat.mul_zero] at hi; omega
  ·exact e
 unfold feedT
 obtain ⟨m, hm0⟩ : ∃ m, m = i / k.gifts.length := ⟨_, rfl⟩
 obtain ⟨g, hg0⟩ : ∃ g, g = i % k.gifts.length := ⟨_, rfl⟩
 rw [← hm0, ← hg0]
 have hg : g < k.gifts.length := by rw [hg0]; exact Nat.mod_lt _ hG
 have hm : m < k.meals.length := by rw [hm0]; exact Nat.div_lt_of_lt_mul (by rw [Nat.mul_comm]; exact hi)
 have hpp : m * k.gifts.length + g = i := by rw [hm0, hg0, Nat.mul_comm]; exact Nat.div_add_mod i k.gifts.length
 have hz := feedP_Z V i (by omega)
 have hz' := hz.i.z m g hm hg (by omega)
 have hsr := feedL_srv V (p := i) (by omega)
 have hlen := feedL_len (k := k) i
 have hbd := feedL_bd V i
 have hfe := feedL_feas V (i := i) (by omega)
 have hsum := feedL_sum V (p := i) (by omega)
 have e1 := feedS_at V (p := i + 1) (by omega) hm hg
 rw [if_pos (by omega), feedP, ← hm0, ← hg0] at e1
 unfold feedStep at e1
 have hnn := (feed_Z V).i.ok.srv.nn m g
 have h00 : 0 ≤ at2 (feedS k) m g := hnn
 unfold restI
 cases hi9 : inP k m g with
 | false =>
  rw [if_neg (show ¬ inR (m : Int) (giAt k g).from_ (giAt k g).keeps = true from by
   have : inR (m : Int) (giAt k g).from_ (giAt k g).keeps = false := hi9
   rw [this]; decide), hz'] at e1
  rw [if_neg (by decide), ← e1]
  exact ⟨Int.le_refl _, Int.le_refl _, by omega, fun n h0 h1 => by omega⟩
 | true =>
  rw [if_pos (show inR (m : Int) (giAt k g).from_ (giAt k g).keeps = true from hi9)] at e1
  simp only at e1
  rw [at2_updS hz.i.ok.srv hm hg, if_pos ⟨rfl, rfl⟩] at e1
  have hme := hz.i.e
  rw [← hpp] at hme
  have ok := hz.i.ok
  rw [← hpp] at ok hz'
  have pr := pair_rest V ok.srv ok.fits hm hg hz' hi9 hme
  have po := fun n v h0 h1 => pair_other V ok.srv ok.fits hm hg hz' hi9 hme (n := n) (v := v) h0 h1
  rw [hpp] at pr po
  rw [e1] at pr po
  rw [if_pos rfl, hsr]
  have hr5 : restV k (feedP k i).1 m g ≤ 10000 := by
   have a := (giAt_V V hg).p1
   have b := ((feedP_Z V i (by omega)).i.ok.srv.gone g k.meals.length).1
   unfold restV
   omega
  refine ⟨h00, pr, hr5, fun n h0 h1 => ?_⟩
  have hF := feas_snoc V hfe hm hg (by rw [hlen, hpp]) (n := n) (by omega) (by rw [hsr]; exact h1)
  have hs := srvOf_srv (k := k) hF.bd
  obtain ⟨v, hv⟩ := most_exists V hs hF.fits (feedL k i ++ [n]).length
  have hw := eatW_eq hv
  have hn1 : n ≤ 10000 := by omega
  have hsn := srvOf_snoc hbd hm hg (by rw [hlen, hpp]) (n := n) (by omega) hn1
  have hl2 : (feedL k i ++ [n]).length = i + 1 := by rw [List.length_append, hlen]; rfl
  have hv2 := hv
  rw [hsn, hsr, hl2] at hv2
  obtain ⟨q1, q2, q3⟩ := po n v (by omega) hv2
  have hs2 : (feedL k i ++ [n]).sum = (feedL k i).sum + n := by simp
  refine ⟨hF, ⟨v, hv⟩, fun q => ?_, fun q => ?_⟩
  ·have := q2 q
   rw [hw, hs2]; omega
  ·have := q3 q
   rw [hw, hs2]; omega
end
end Go.Proofs.Ytmagiabapakhcaa
