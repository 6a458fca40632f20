/- A part of the proofs about the chapter of the ramps; it states no condition of its own. -/
import Derived.Test.YthcicaelnchfdaaB12
import Derived.Test.YthcicaelnchfdaaB15
import Derived.Test.YthcicaelnchfdaaB16
import Derived.Test.YthcicaelnchfdaaB22
set_option linter.unusedVariables false
set_option linter.unusedSimpArgs false
/- The reference's best plan, on values. (Vm) -/
namespace Go.Proofs.Ythcicaelnchfdaa.Vm
open Go Go.Proofs
theorem own_ret3 {T : Tab} {f : Nat} {fn : Func} {M : Mem} {L : List VObj} {e : Env} {t t' t'' : Nat} {X Y Z : VV} (h1 : fn.results.toList = [.tmp t, .tmp t', .tmp t'']) (hr : frz M.H.length (M.H ++ L) (get e t) = X) (hr' : frz M.H.length (M.H ++ L) (get e t') = Y) (hr'' : frz M.H.length (M.H ++ L) (get e t'') = Z) (h2 : refs X = []) (h2' : refs Y = []) (h2'' : refs Z = []) : ownQ T f fn M (fun r M' => M' = M ∧ r = .tup [X, Y, Z]) .ret e ⟨M.H ++ L, M.lg⟩ [] :=
 own_ret (vs := [get e t, get e t', get e t'']) (by rw [h1]; rfl) (by simp only [vtup, frz, frzL, hr, hr', hr'']) (by simp [refs, refsL, h2, h2', h2'']) ⟨rfl, rfl⟩
def serveV (y : Ya) : VV := .tup [stsV (serveT y).1, vi (serveT y).2.1, vi (serveT y).2.2]
end Go.Proofs.Ythcicaelnchfdaa.Vm

/- Choices of carts, on values. (Vm) -/
namespace Go.Proofs.Ythcicaelnchfdaa.Vm
open Go Go.Proofs
theorem nil_rowP {w : World} {I : Nat → Nat → Prop} {v : Value} (h : RepP w I v (.sl 1 [[.sl 0 []]])) : RepP w I v (.sl 1 [[.sl 1 []]]) := by
 cases h with
 | sl A' c _ b off _ g q1 q2 q3 q4 q5 q6 q7 =>
  have key : ∀ (i : Nat) (x : List PV) (j : Nat) (u : PV), ([[PV.sl 1 []]] : List (List PV))[i]? = some x → x[j]? = some u → i = 0 ∧ j = 0 ∧ u = .sl 1 [] := fun i x j u hx hu => by
   rcases i with _ | i
   ·simp only [List.getElem?_cons_zero, Option.some.injEq] at hx
    subst hx
    rcases j with _ | j
    ·simp only [List.getElem?_cons_zero, Option.some.injEq] at hu
     exact ⟨rfl, rfl, hu.symm⟩
    ·simp at hu
   ·simp at hx
  refine .sl A' c 1 b off [[.sl 1 []]] g q1 q2 (fun x hx => by simp at hx; subst hx; rfl) (fun _ => q4 (by simp)) (fun i x j u hx hu => ?_) (fun i x j u hx hu => ?_) (fun i x j u hx hu => ?_)
  ·obtain ⟨rfl, rfl, rfl⟩ := key i x j u hx hu
   exact q5 0 _ 0 _ rfl rfl
  ·obtain ⟨rfl, rfl, rfl⟩ := key i x j u hx hu
   exact q6 0 _ 0 _ rfl rfl
  ·obtain ⟨rfl, rfl, rfl⟩ := key i x j u hx hu
   have hv := q7 0 _ 0 _ rfl rfl
   generalize g 0 0 = gv at hv ⊢
   cases hv with
   | sl B c2 _ b2 off2 _ g2 r1 r2 r3 r4 r5 r6 r7 => exact .sl B c2 1 b2 off2 [] g2 r1 r2 (fun x hx => by cases hx) r4 (fun i x j u hx => by simp at hx) (fun i x j u hx => by simp at hx) (fun i x j u hx => by simp at hx)
theorem nil_row {w : World} {K : Nat → Option Nat} {H : List VObj} {v : Value} (h : RepV w K H v (.sf 1 [[.sl 0 []]])) : RepV w K H v (tabV [[]]) := by
 generalize hx : ([[PV.sl 0 []]] : List (List PV)) = xs at h
 cases h with
 | sf A _ _ hp =>
  subst hx
  exact .p _ _ (nil_rowP hp)
theorem own_retC {f : Nat} {fn : Func} {M : Mem} {L : List VObj} {Y : List (Nat × Nat)} {e : Env} {ex : Exit} {a t : Nat} {X Z : VV} (hex : ex = .normal ∨ ex = .ret) (hY : ∀ x ∈ Y, M.H.length ≤ x.1) (h1 : fn.results.toList = [.cell a t]) (hr : vload T t (get e a) ⟨M.H ++ L, M.lg ++ Y⟩ = some Z) (hZ : frz M.H.length (M.H ++ L) Z = X) (h2 : refs X = []) : ownQ T f fn M (fun r M' => M' = M ∧ r = X) ex e ⟨M.H ++ L, M.lg ++ Y⟩ [] :=
 ⟨hex, rfl, ⟨Y, rfl, hY⟩, M.H, L, rfl, rfl, [Z], by rw [h1]; simp [vresL, hr], X, hZ, by simp [h2], rfl, rfl⟩
theorem W_know1 {P : Program} {cx : Cx} {e : Env} {M : Mem} {D : List Nat} {Q : PQ} {c : Code} {t : Nat} (ht : get e t = .sf 1 [[.sl 0 []]]) (h : WCode P cx c ((t, tabV [[]]) :: e) M D Q) : WCode P cx c e M D Q := W_know ht (fun r hr => by simp [refs] at hr) (fun _ _ _ => nil_row) h
end Go.Proofs.Ythcicaelnchfdaa.Vm

/- The reference's Stuck and Most, on values. (Vm) -/
namespace Go.Proofs.Ythcicaelnchfdaa.Vm
open Go Go.Proofs
end Go.Proofs.Ythcicaelnchfdaa.Vm
