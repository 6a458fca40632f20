/- A part of the proofs about the chapter of the doors; it states no condition of its own. -/
import Derived.Test.YtmagiabapakhcaaB25
import Derived.Test.YtmagiabapakhcaaB31
set_option linter.unusedVariables false
set_option linter.unusedSimpArgs false
/- Houses made of numbers, on values. (Vm) -/
namespace Go.Proofs.Ytmagiabapakhcaa.Vm
open Go Go.Proofs
attribute [local irreducible] castF castU fromF fromU oneF oneU aboutF aboutU
theorem addLg_has {id r : Nat} {lg : List (Nat × Nat)} (h : (id, r) ∈ lg) : addLg id [r] lg = lg := by
 unfold addLg
 have h1 : (lg.any fun e => Nat.beq e.1 id && Nat.beq e.2 r) = true := List.any_eq_true.2 ⟨(id, r), h, by simp⟩
 have h2 : List.filter (fun r => Nat.blt id r && !(lg.any fun e => Nat.beq e.1 id && Nat.beq e.2 r)) [r] = [] := by
  rw [List.filter_cons]
  simp [h1]
 rw [h2]
structure HoA where
 u : Int
 hs : List Int
structure HoB where
 u : Int
 ds : List Do
 junk : List VObj
theorem about_c {H0 : List VObj} {d : Nat} (hd : d < H0.length) {L : List VObj} (u n : Int) (lg : List (Nat × Nat)) (h0 : 0 ≤ n) (h1 : n ≤ 1000000) : VC Try.prog 63 [.ptr d 0, vi n] ⟨DH H0 d u L, lg⟩ (fun r M' => M' = ⟨DH H0 d (aboutU u) L, lg⟩ ∧ r = spV (aboutF u n)) := by
 rw [DH_base, DH_base (u := aboutU u)]
 exact about_v (by rw [List.length_append]; omega) u n lg h0 h1
def tvOf (n t k : Nat) (ts : List Int) : VV := if t = 0 then .sf 1 (ts.map intP) else .so (n + (k + 5)) 1 (ts.map intP)
def jkOf (t : Nat) (J : List VObj) : List VObj := if t = 0 then J else J ++ [.clm (t + 1) 1]
structure HoC where
 u : Int
 cs : List Co
 ts : List Int
 now : Int
 t : Nat
structure HoD where
 u : Int
 cs : List Co
 now : Int
 i : Nat
abbrev zeroHo : List VV := [.sf 0 [], .sf 0 [], vi 0, vi 0, vi 0, .sf 0 []]
end Go.Proofs.Ytmagiabapakhcaa.Vm
