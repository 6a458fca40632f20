/- A part of the proofs about the chapter of the doors; it states no condition of its own. -/
import Derived.Test.YtmagiabapakhcaaB38
import Derived.Test.YtmagiabapakhcaaB48
import Derived.Test.YtmagiabapakhcaaB49
set_option linter.unusedVariables false
set_option linter.unusedSimpArgs false
open Int renaming reduceLE → zA, reduceLT → zB, reduceToNat → zC, reduceNeg → zD
open Nat renaming reduceLT → zE, reduceEqDiff → zF, reduceAdd → zG, reduceSub → zH, reduceMul → zI, reduceLeDiff → zJ
/- No serving is better than that of Feed, plain. -/
namespace Go.Proofs.Ytmagiabapakhcaa
structure Pfx (k : Kn) (l : List Int) : Prop where
 f : Feas k l
 inn : ∀ m g, m < k.meals.length → g < k.gifts.length → 0 < at2 (srvOf k l) m g → inP k m g = true
section
variable {k : Kn} {l : List Int}
theorem Pfx.nil (V : KV k) : Pfx k [] := ⟨feas_nil V, fun m g hm hg h => by rw [srvOf_at _ hm hg] at h; simp at h⟩
theorem Pfx.ext (h : Pfx k l) : Ext k (srv0 k) 0 (at2 (srvOf k l)) := by
 have hs := srvOf_srv (k := k) h.f.bd
 have z1 : ∀ g n, goneT (srv0 k) g n = 0 := fun g n => sumTo_zero' fun m _ => srv0_at k m g
 have z2 : ∀ m n, eatenT (srv0 k) m n = 0 := fun m n => sumTo_zero' fun g _ => srv0_at k m g
 refine ⟨fun m g _ _ => hs.nn m g, fun m g hm hg ho => ?_, fun g hg => ?_, fun m hm => ?_⟩
 ·rcases ho with ho | ho
  ·omega
  ·have := hs.nn m g
   rcases Int.lt_or_eq_of_le this with q | q
   ·have := h.inn m g hm hg q
    rw [ho] at this; cases this
   ·exact q.symm
 ·rw [z1]
  have := h.f.fits.1 g hg
  unfold goneT at this
  omega
 ·rw [z2]
  have := h.f.fits.2 m hm
  unfold eatenT at this
  omega
end
end Go.Proofs.Ytmagiabapakhcaa

/- The law that no serving is better, on values. (Vm) -/
namespace Go.Proofs.Ytmagiabapakhcaa.Vm
open Go Go.Proofs
noncomputable def T4 : Tab := tabOf Try.prog cmpB (varsOf Try.prog) (fun f => keepsB f || Nat.beq f 31)
theorem T4_ok : TabOk Try.prog T4 := tabOf_ok cmpB_ok (by kernel_rfl)
theorem call_d4 {f : Nat} {fn : Func} {args : List VV} {M M1 : Mem} {v : VV} (hf : T4.fn f = some fn) (hk : T4.keeps f = true) (h : VC Try.prog f args M (fun r M' => M' = M1 ∧ r = v)) {R : VV → Mem → Prop} (hq : R v M1) : DCallK Try.prog (.fn (.func f) [] []) args M R :=
 ⟨v, M1, (VCall_fn T4_ok hf (by
  have : (sarg T4 f) = id := funext fun v => by simp [sarg, hk]
  simpa [this] using h)).mono fun r M' e => by obtain ⟨rfl, rfl⟩ := e; exact ⟨rfl, rfl⟩, hq⟩
theorem copyInts_k (xs : List Int) (M : Mem) (hl : xs.length ≤ 1000000) : VC Try.prog 31 [intsV xs] M (fun r M' => M' = ⟨M.H ++ [.clm xs.length 1], M.lg⟩ ∧ r = .so M.H.length 1 (xs.map intP)) := by
 have q1 : (xs.length * 8 ≤ 140737488355328) = True := eq_true (by omega)
 refine VC_keep T4_ok (f := 31) (fn := Try.f31) (by kernel_rfl) rfl Try.ntmps31 (by rfl) (by rfl) ?_
 ((repeat refine Ws ?_);refine Wr ?_)
 simp (maxSteps := 1000000) only [VL,VM,↓VG,reduceIte,reduceCtorEq,zA,zB,zC,zD,zE,zF,zG,zH,zI,zJ]
 ((repeat refine Ws ?_);refine Wr ?_)
 simp (maxSteps := 1000000) only [VL,VM,↓VG,reduceIte,reduceCtorEq,zA,zB,zC,zD,zE,zF,zG,zH,zI,zJ, q1]
 (repeat refine Ws ?_)
 refine W_ret ?_
 exact ⟨.inr rfl, rfl, [.so M.H.length 1 (xs.map intP)], rfl, rfl, rfl⟩
end Go.Proofs.Ytmagiabapakhcaa.Vm

/- The law that no serving is better, on values: the whole. (Vm) -/
namespace Go.Proofs.Ytmagiabapakhcaa.Vm
open Go Go.Proofs
attribute [local irreducible] castF castU fromF fromU oneF oneU onceF
section
variable {P : Program} {T : Tab} {cx : Cx} {e : Env} {M : Mem} {D : List Nat} {Q : PQ} {c : Code}
end
end Go.Proofs.Ytmagiabapakhcaa.Vm
