/- A part of the proofs about the chapter of the doors; it states no condition of its own. -/
import Derived.Test.YtmagiabapakhcaaB38
import Derived.Test.YtmagiabapakhcaaB48
import Derived.Test.YtmagiabapakhcaaB49
set_option linter.unusedVariables false
set_option linter.unusedSimpArgs false
open Int renaming reduceLE → zA, reduceLT → zB, reduceToNat → zC, reduceNeg → zD
open Nat renaming reduceLT → zE, reduceEqDiff → zF, reduceAdd → zG, reduceSub → zH, reduceMul → zI, reduceLeDiff → zJ
/- No serving is better than that of Feed, plain. -/
namespace Go.Proofs.Ytmagiabapakhcaa
structure Pfx (k : Kn) (l : List Int) : Prop where
 f : Feas k l
 inn : ∀ m g, m < k.meals.length → g < k.gifts.length → 0 < at2 (srvOf k l) m g → inP k m g = true
section
variable {k : Kn} {l : List Int}
theorem Pfx.nil (V : KV k) : Pfx k [] := ⟨feas_nil V, fun m g hm hg h => by rw [srvOf_at _ hm hg] at h; simp at h⟩
theorem Pfx.ext (h : Pfx k l) : Ext k (srv0 k) 0 (at2 (srvOf k l)) := by
 have hs := srvOf_srv (k := k) h.f.bd
 have z1 : ∀ g n, goneT (srv0 k) g n = 0 := fun g n => sumTo_zero' fun m _ => srv0_at k m g
 have z2 : ∀ m n, eatenT (srv0 k) m n = 0 := fun m n => sumTo_zero' fun g _ => srv0_at k m g
 refine ⟨fun m g _ _ => hs.nn m g, fun m g hm hg ho => ?_, fun g hg => ?_, fun m hm => ?_⟩
 ·rcases ho with ho | ho
  ·omega
  ·have := hs.nn m g
   rcases Int.lt_or_eq_of_le this with q | q
   ·have := h.inn m g hm hg q
    rw [ho] at this; cases this
   ·exact q.symm
 ·rw [z1]
  have := h.f.fits.1 g hg
  unfold goneT at this
  omega
 ·rw [z2]
  have := h.f.fits.2 m hm
  unfold eatenT at this
  omega
end
end Go.Proofs.Ytmagiabapakhcaa

/- The law that no serving is better, on values. (Vm) -/
namespace Go.Proofs.Ytmagiabapakhcaa.Vm
open Go Go.Proofs
noncomputable def T4 : Tab := tabOf Try.prog cmpB (varsOf Try.prog) (fun f => keepsB f || Nat.beq f 31)
theorem T4_ok : TabOk Try.prog T4 := tabOf_ok cmpB_ok (by kernel_rfl)
theorem copyInts_k (xs : List Int) (M : Mem) (hl : xs.length ≤ 1000000) : VC Try.prog 31 [intsV xs] M (fun r M' => M' = ⟨M.H ++ [.clm xs.length 1], M.lg⟩ ∧ r = .so M.H.length 1 (xs.map intP)) := by
 have q1 : (xs.length * 8 ≤ 140737488355328) = True := eq_true (by omega)
 refine VC_keep T4_ok (f := 31) (fn := Try.f31) (by kernel_rfl) rfl Try.ntmps31 (by rfl) (by rfl) ?_
 ((repeat refine Ws ?_);refine Wr ?_)
 simp (maxSteps := 1000000) only [VL,VM,↓VG,reduceIte,reduceCtorEq,zA,zB,zC,zD,zE,zF,zG,zH,zI,zJ]
 ((repeat refine Ws ?_);refine Wr ?_)
 simp (maxSteps := 1000000) only [VL,VM,↓VG,reduceIte,reduceCtorEq,zA,zB,zC,zD,zE,zF,zG,zH,zI,zJ, q1]
 (repeat refine Ws ?_)
 refine W_ret ?_
 exact ⟨.inr rfl, rfl, [.so M.H.length 1 (xs.map intP)], rfl, rfl, rfl⟩
theorem total_v (l : List Int) (M : Mem) (hl : l.length ≤ 1000000) (hb : ∀ x ∈ l, 0 ≤ x ∧ x ≤ 2000000000) : VC Try.prog 53 [intsV l] M (fun r M' => M' = M ∧ r = vi l.sum) := by
 refine VC_own' T_ok (f := 53) (fn := Try.f53) (by kernel_rfl) rfl Try.ntmps53 (by rfl) (by rfl) ?_
 ((repeat refine Ws ?_);refine Wr ?_)
 simp (maxSteps := 1000000) only [VL,VM,↓VG,reduceIte,reduceCtorEq,zA,zB,zC,zD,zE,zF,zG,zH,zI,zJ]
 ((repeat refine Ws ?_);refine Wr ?_)
 simp (maxSteps := 1000000) only [VL,VM,↓VG,reduceIte,reduceCtorEq,zA,zB,zC,zD,zE,zF,zG,zH,zI,zJ]
 ((repeat refine Ws ?_);refine Wr ?_)
 simp (maxSteps := 1000000) only [VL,VM,↓VG,reduceIte,reduceCtorEq,zA,zB,zC,zD,zE,zF,zG,zH,zI,zJ]
 ((repeat refine Ws ?_);refine W_block ?_; (repeat refine Ws ?_)); refine W_loopS (fun i : Nat => [(0, intsV l), (3, vi (l.take i).sum), (4, vi i)]) (fun _ => M) (fun i => l.length - i) (fun i => i ≤ l.length ∧ 0 ≤ (l.take i).sum ∧ (l.take i).sum ≤ 2000000000 * i) 0 ⟨Nat.zero_le _, by simp, by simp⟩ ⟨rfl, rfl, rfl, trivial⟩ rfl ?_
 rintro i ⟨hi, hs0, hs1⟩
 have k1 : -9223372036854775808 ≤ (i : Int) + 1 ∧ (i : Int) + 1 < 9223372036854775808 := by omega
 ((repeat refine Ws ?_);refine Wr ?_)
 rcases Nat.lt_or_ge i l.length with hlt | hge
 ·have k2 : ((i : Int) < (l.length : Int)) = True := eq_true (by omega)
  have hx : l[i]? = some l[i] := List.getElem?_eq_getElem hlt
  have hm := hb _ (List.getElem_mem hlt)
  generalize l[i] = d at hx hm
  have hx' := map_at (f := intP) hx
  have hsum : (l.take (i + 1)).sum = (l.take i).sum + d := by rw [List.take_add_one, hx]; simp
  have k3 : -9223372036854775808 ≤ (l.take i).sum + d ∧ (l.take i).sum + d < 9223372036854775808 := by omega
  simp (maxSteps := 1000000) only [VL,VM,↓VG,reduceIte,reduceCtorEq,zA,zB,zC,zD,zE,zF,zG,zH,zI,zJ, k2]
  ((repeat refine Ws ?_);refine Wt (by first|rfl|simp only [EV,zF,reduceIte]) ?_)
  ((repeat refine Ws ?_);refine W_skip ?_)
  simp (maxSteps := 1000000) only [VL,VM,↓VG,reduceIte,reduceCtorEq,zA,zB,zC,zD,zE,zF,zG,zH,zI,zJ]
  ((repeat refine Ws ?_);refine W_block ?_)
  ((repeat refine Ws ?_);refine Wr ?_)
  simp (maxSteps := 1000000) only [VL,VM,↓VG,reduceIte,reduceCtorEq,zA,zB,zC,zD,zE,zF,zG,zH,zI,zJ, hx', k3]
  ((repeat refine Ws ?_);refine Wr ?_)
  simp (maxSteps := 1000000) only [VL,VM,↓VG,reduceIte,reduceCtorEq,zA,zB,zC,zD,zE,zF,zG,zH,zI,zJ, k1]
  refine LoopK.mk (i + 1) (by omega) ⟨by omega, by omega, by omega⟩ ⟨rfl, ?_, rfl, trivial⟩ rfl
  rw [hsum]; rfl
 have k2 : ((i : Int) < (l.length : Int)) = False := eq_false (by omega)
 obtain rfl : i = l.length := by omega
 simp (maxSteps := 1000000) only [VL,VM,↓VG,reduceIte,reduceCtorEq,zA,zB,zC,zD,zE,zF,zG,zH,zI,zJ, k2, List.take_length]
 ((repeat refine Ws ?_);refine Wf (by first|rfl|simp only [EV,zF,reduceIte]) ?_)
 ((repeat refine Ws ?_);refine W_exit ?_)
 simp (maxSteps := 1000000) only [VL,VM,↓VG,reduceIte,reduceCtorEq,zA,zB,zC,zD,zE,zF,zG,zH,zI,zJ]
 ((repeat refine Ws ?_);refine Wr ?_)
 simp (maxSteps := 1000000) only [VL,VM,↓VG,reduceIte,reduceCtorEq,zA,zB,zC,zD,zE,zF,zG,zH,zI,zJ]
 (repeat refine Ws ?_)
 refine W_ret ?_
 try simp only [thenQ, blockQ]
 refine own_ret10 rfl ?_ (by rfl)
 simp only [get_cons, frz, vtup, Nat.reduceEqDiff, if_true, if_false, reduceIte]
end Go.Proofs.Ytmagiabapakhcaa.Vm

/- The law that no serving is better, on values: the whole. (Vm) -/
namespace Go.Proofs.Ytmagiabapakhcaa.Vm
open Go Go.Proofs
attribute [local irreducible] castF castU fromF fromU oneF oneU onceF
section
variable {P : Program} {T : Tab} {cx : Cx} {e : Env} {M : Mem} {D : List Nat} {Q : PQ} {c : Code}
theorem W_know {t : Nat} {x y : VV} (ht : get e t = x) (hr : ∀ r ∈ refs y, r ∈ refs x) (hk : ∀ w K v, RepV w K M.H v x → RepV w K M.H v y) (h : WCode P cx c ((t, y) :: e) M D Q) : WCode P cx c e M D Q := by
 intro G w K a hs
 have hf2 : FrOk w K M cx.nt a.tmps ((t, y) :: e) := by
  refine ⟨hs.fr.size, fun t' => ?_, fun t' => ?_⟩
  ·rw [get_cons]
   by_cases h1 : t' = t
   ·subst h1
    rw [if_pos rfl]
    have := hs.fr.rep t'
    rw [ht] at this
    exact hk _ _ _ this
   ·rw [if_neg h1]; exact hs.fr.rep t'
  ·rw [get_cons]
   by_cases h1 : t' = t
   ·subst h1
    rw [if_pos rfl]
    intro r hr'
    have := hs.fr.cl t'
    rw [ht] at this
    exact this r (hr r hr')
   ·rw [if_neg h1]; exact hs.fr.cl t'
 exact h G w K a ⟨hf2, hs.df, hs.inv, hs.rd⟩
end
end Go.Proofs.Ytmagiabapakhcaa.Vm
