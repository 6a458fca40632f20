/- A part of the proofs about the chapter of the ramps; it states no condition of its own. -/
import Derived.Test.YthcicaelnchfdaaB12
import Derived.Test.YthcicaelnchfdaaB15
import Derived.Test.YthcicaelnchfdaaB16
import Derived.Test.YthcicaelnchfdaaB22
set_option linter.unusedVariables false
set_option linter.unusedSimpArgs false
/- The reference's best plan, on values. (Vm) -/
namespace Go.Proofs.Ythcicaelnchfdaa.Vm
open Go Go.Proofs
theorem repl_stC (n : Nat) (a b : Int) : (List.replicate n [vi a, vi b]).flatten = stC (List.replicate n ⟨a, b⟩) := by simp [stC]
theorem st_put1 {l : List St} {i : Nat} {a : Int} (h : i < l.length) : (stC l).take (i * 2) ++ vi a :: (stC l).drop (i * 2 + 1) = stC (l.set i ⟨a, (stAt l i).from_⟩) := by
 rw [← st_put h]
 congr 2
 have h1 : (stC l)[i * 2 + 1]? = some (vi (stAt l i).from_) := by
  unfold stC
  have hk : ∀ x ∈ l.map (fun s => [vi s.ramp, vi s.from_]), x.length = 2 := fun x hx => by obtain ⟨z, _, rfl⟩ := List.mem_map.1 hx; rfl
  rw [flat_get (i := i) (j := 1) hk (x := [vi (stAt l i).ramp, vi (stAt l i).from_]) (by rw [List.getElem?_map, stAt_get h]; rfl) (by omega)]
  rfl
 rw [show i * 2 + 2 = (i * 2 + 1) + 1 by omega]
 exact List.drop_eq_getElem?_toList_append.trans (by rw [h1]; rfl)
theorem own_ret3 {T : Tab} {f : Nat} {fn : Func} {M : Mem} {L : List VObj} {e : Env} {t t' t'' : Nat} {X Y Z : VV} (h1 : fn.results.toList = [.tmp t, .tmp t', .tmp t'']) (hr : frz M.H.length (M.H ++ L) (get e t) = X) (hr' : frz M.H.length (M.H ++ L) (get e t') = Y) (hr'' : frz M.H.length (M.H ++ L) (get e t'') = Z) (h2 : refs X = []) (h2' : refs Y = []) (h2'' : refs Z = []) : ownQ T f fn M (fun r M' => M' = M ∧ r = .tup [X, Y, Z]) .ret e ⟨M.H ++ L, M.lg⟩ [] :=
 own_ret (vs := [get e t, get e t', get e t'']) (by rw [h1]; rfl) (by simp only [vtup, frz, frzL, hr, hr', hr'']) (by simp [refs, refsL, h2, h2', h2'']) ⟨rfl, rfl⟩
def serveV (y : Ya) : VV := .tup [stsV (serveT y).1, vi (serveT y).2.1, vi (serveT y).2.2]
end Go.Proofs.Ythcicaelnchfdaa.Vm

/- Choices of carts, on values. (Vm) -/
namespace Go.Proofs.Ythcicaelnchfdaa.Vm
open Go Go.Proofs
theorem own_retC {f : Nat} {fn : Func} {M : Mem} {L : List VObj} {Y : List (Nat × Nat)} {e : Env} {ex : Exit} {a t : Nat} {X Z : VV} (hex : ex = .normal ∨ ex = .ret) (hY : ∀ x ∈ Y, M.H.length ≤ x.1) (h1 : fn.results.toList = [.cell a t]) (hr : vload T t (get e a) ⟨M.H ++ L, M.lg ++ Y⟩ = some Z) (hZ : frz M.H.length (M.H ++ L) Z = X) (h2 : refs X = []) : ownQ T f fn M (fun r M' => M' = M ∧ r = X) ex e ⟨M.H ++ L, M.lg ++ Y⟩ [] :=
 ⟨hex, rfl, ⟨Y, rfl, hY⟩, M.H, L, rfl, rfl, [Z], by rw [h1]; simp [vresL, hr], X, hZ, by simp [h2], rfl, rfl⟩
end Go.Proofs.Ythcicaelnchfdaa.Vm

/- The reference's Stuck and Most, on values. (Vm) -/
namespace Go.Proofs.Ythcicaelnchfdaa.Vm
open Go Go.Proofs
end Go.Proofs.Ythcicaelnchfdaa.Vm
