/- A part of the proofs about the chapter of the vaults; it states no condition of its own. -/
import Derived.Test.YtijcmgfblpokhaaB52
import Derived.Test.YtijcmgfblpokhaaB53
set_option linter.unusedVariables false
set_option linter.unusedSimpArgs false
/- The reference's layouts, on values. (Vm) -/
namespace Go.Proofs.Ytijcmgfblpokhaa.Vm
open Go Go.Proofs
/-- memory in which one claim grows -/
structure Fg (g n0 : Nat) (A : Nat → List VObj) : Prop where
  len : ∀ k, (A k).length = n0
  gg : ∀ k L, (A k ++ L)[g]? = some (.clm k 1)
  sg : ∀ k L x, (A k ++ L).set g (.clm x 1) = A x ++ L
theorem Fg.get {g n0 : Nat} {A : Nat → List VObj} (F : Fg g n0 A) (k : Nat) (L : List VObj) (i : Nat) : (A k ++ L)[n0 + i]? = L[i]? := by
  rw [← F.len k]; exact hget _ _ _
theorem Fg.get0 {g n0 : Nat} {A : Nat → List VObj} (F : Fg g n0 A) (k : Nat) (L : List VObj) : (A k ++ L)[n0]? = L[0]? := F.get k L 0
theorem Fg.set {g n0 : Nat} {A : Nat → List VObj} (F : Fg g n0 A) (k : Nat) (L : List VObj) (i : Nat) (o : VObj) : (A k ++ L).set (n0 + i) o = A k ++ L.set i o := by
  rw [← F.len k]; exact hset _ _ _ _
theorem Fg.set0 {g n0 : Nat} {A : Nat → List VObj} (F : Fg g n0 A) (k : Nat) (L : List VObj) (o : VObj) : (A k ++ L).set n0 o = A k ++ L.set 0 o := F.set k L 0 o
theorem Fg.ext {g n0 : Nat} {A : Nat → List VObj} (F : Fg g n0 A) (X : List VObj) : Fg g (n0 + X.length) (fun k => A k ++ X) :=
  ⟨fun k => by rw [List.length_append, F.len], fun k L => by rw [List.append_assoc]; exact F.gg k _, fun k L x => by rw [List.append_assoc, F.sg, List.append_assoc]⟩
end Go.Proofs.Ytijcmgfblpokhaa.Vm
