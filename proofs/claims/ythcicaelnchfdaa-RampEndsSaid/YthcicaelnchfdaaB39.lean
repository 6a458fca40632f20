/- A part of the proofs about the chapter of the ramps; it states no condition of its own. -/
import Derived.Test.YthcicaelnchfdaaB15
import Derived.Test.YthcicaelnchfdaaB31
set_option linter.unusedVariables false
set_option linter.unusedSimpArgs false
open Int renaming reduceLE → zA, reduceLT → zB, reduceToNat → zC, reduceNeg → zD
open Nat renaming reduceLT → zE, reduceEqDiff → zF, reduceAdd → zG, reduceSub → zH, reduceMul → zI, reduceLeDiff → zJ
/- Copies of lists that keep their tokens: they may be appended to. (Vm) -/
namespace Go.Proofs.Ythcicaelnchfdaa.Vm
open Go Go.Proofs
theorem VC_keep {P : Program} {T : Tab} (hT : TabOk P T) {f : Nat} {fn : Func} {c : Code} {nt : Nat} {args : List VV} {M : Mem} {Q : VV → Mem → Prop} (hf : T.fn f = some fn) (hb : fn.body = some c) (hnt : fn.ntmps = nt) (hn : Nat.ble args.length nt = true) (hk : T.keeps f = true)
  (h : WCode P ⟨f, none, nt⟩ c (zipEnv 0 args) M [] (fun ex e M' D => (ex = .normal ∨ ex = .ret) ∧ D = [] ∧ ∃ vs, vresL T e M' fn.results.toList = some vs ∧ Q (vtup vs) M')) : VC P f args M Q := by
 subst hnt
 refine VC_fn hT hf hb (Nat.le_of_ble_eq_true hn) fun hlg => h.mono ?_
 rintro ex e M' D ⟨hex, rfl, vs, h1, h3⟩
 have key : retQ T f M.H.length fn Q .ret e M' [] := by
  simp only [retQ, vkill]
  have hM : ({ M' with H := M'.H } : Mem) = M' := rfl
  rw [hM, h1]
  simp only
  unfold vfinish
  rw [hk]
  exact h3
 rcases hex with rfl | rfl
 ·exact key
 ·exact key
def keepsC (f : Nat) : Bool := Nat.beq f 41 || Nat.beq f 37
noncomputable def TC : Tab := ownT2 T (fun _ => false) keepsC
theorem TC_ok : TabOk Try.prog TC := ownT2_ok T_ok
theorem TC_fn : TC.fn = T.fn := ownT2_fn
theorem TC_keeps : TC.keeps = keepsC := ownT2_keeps
theorem copyInts_k (xs : List Int) (M : Mem) (hl : xs.length ≤ 1000000) : VC Try.prog 37 [intsV xs] M (fun r M' => M' = ⟨M.H ++ [.clm xs.length 1], M.lg⟩ ∧ r = .so M.H.length 1 (xs.map intP)) := by
 have q1 : (xs.length * 8 ≤ 140737488355328) = True := eq_true (by omega)
 refine VC_keep TC_ok (f := 37) (fn := Try.f37) (by rw [TC_fn]; kernel_rfl) rfl Try.ntmps37 (by rfl) (by rw [TC_keeps]; rfl) ?_
 ((repeat refine Ws ?_);refine Wr ?_)
 simp (maxSteps := 1000000) only [VL,VM,↓VG,reduceIte,reduceCtorEq,zA,zB,zC,zD,zE,zF,zG,zH,zI,zJ]
 ((repeat refine Ws ?_);refine Wr ?_)
 simp (maxSteps := 1000000) only [VL,VM,↓VG,reduceIte,reduceCtorEq,zA,zB,zC,zD,zE,zF,zG,zH,zI,zJ, q1]
 (repeat refine Ws ?_)
 exact W_ret ⟨.inr rfl, rfl, [.so M.H.length 1 (xs.map intP)], rfl, rfl, rfl⟩
end Go.Proofs.Ythcicaelnchfdaa.Vm
