/- A part of the proofs about the chapter of the doors; it states no condition of its own. -/
import Derived.Test.YtmagiabapakhcaaB27
import Derived.Test.YtmagiabapakhcaaB29
import Derived.Test.YtmagiabapakhcaaB34
import Derived.Test.YtmagiabapakhcaaB35
import Derived.Test.YtmagiabapakhcaaB37
set_option linter.unusedVariables false
set_option linter.unusedSimpArgs false
/- The reference: who may be inside, on values. (Vm) -/
-- TABLE TE
namespace Go.Proofs.Ytmagiabapakhcaa.Vm
open Go Go.Proofs
end Go.Proofs.Ytmagiabapakhcaa.Vm

/- The reference: Inside, on values. (Vm) -/
namespace Go.Proofs.Ytmagiabapakhcaa.Vm
open Go Go.Proofs
end Go.Proofs.Ytmagiabapakhcaa.Vm

/- Houses and kitchens that are copied, and compared with what they were copied from, on values. (Vm) -/
namespace Go.Proofs.Ytmagiabapakhcaa.Vm
open Go Go.Proofs
end Go.Proofs.Ytmagiabapakhcaa.Vm

/- A cell of an object that is known in another way; slices that others lead to, and that grow. (Vm) -/
namespace Go.Proofs.Ytmagiabapakhcaa.Vm
open Go Go.Proofs
section
variable {P : Program} {T : Tab} {cx : Cx} {e : Env} {M : Mem} {D : List Nat} {Q : PQ} {c : Code}
theorem W_cell {id off : Nat} {cs : List VV} {x y : VV} (ho : M.H[id]? = some (.obj cs)) (hc : cs[off]? = some x) (hr : ∀ r ∈ refs y, r ∈ refs x) (hk : ∀ w K v, RepV w K M.H v x → RepV w K M.H v y)
  (h : WCode P cx c e ⟨M.H.set id (.obj (cs.set off y)), M.lg⟩ D Q) : WCode P cx c e M D Q := by
 intro G w K a hs
 have i1 := hs.inv
 have hil := (List.getElem?_eq_some_iff.1 ho).1
 obtain ⟨H2, hH2⟩ : ∃ H2, H2 = M.H.set id (.obj (cs.set off y)) := ⟨_, rfl⟩
 rw [← hH2] at h
 have hl2 : H2.length = M.H.length := by rw [hH2]; simp
 have hs2 : ∀ i x, H2[i]? = some x → (i = id ∧ x = .obj (cs.set off y)) ∨ (i ≠ id ∧ M.H[i]? = some x) := fun i x hx => by
  rw [hH2] at hx
  rcases set_get hx with ⟨rfl, rfl, _⟩ | ⟨b1, b2⟩
  ·exact .inl ⟨rfl, rfl⟩
  ·exact .inr ⟨b1, b2⟩
 have hE : Ext w K M.H w K H2 := by
  refine ⟨Nat.le_refl _, Szp.refl _, fun b q _ him i ob hi hb => ?_, fun _ _ _ _ => rfl, fun i x hi => ?_⟩
  ·rcases hs2 i ob hi with ⟨rfl, rfl⟩ | ⟨_, h2⟩
   ·rcases him i _ ho hb with e2 | ⟨m, k', e2, _⟩
    ·exact e2.elim
    ·cases e2
   ·exact him i ob h2 hb
  ·by_cases hid : i = id
   ·subst hid
    rw [ho] at hi
    cases hi
    exact ⟨_, by rw [hH2, List.getElem?_set_self hil], fun _ _ e => VObj.noConfusion e, rfl⟩
   ·exact ⟨x, by rw [hH2, List.getElem?_set_ne (Ne.symm hid)]; exact hi, objLe_same rfl fun b _ => rfl⟩
 have hI2 : Inv G w K { H := H2, lg := M.lg } := by
  refine ⟨i1.os, i1.tape, i1.output, i1.size, i1.gB, i1.old, inj_set i1 hl2 (fun i hg => by
   by_cases e1 : i = id
   ·rw [e1, ho]; simp
   ·rw [hH2, List.getElem?_set_ne (fun h => e1 h.symm)] at hg
    exact hg), fun i b hi => i1.blk i b (by simpa [hl2] using hi), fun i x hi => ?_, fun i x hi cc hcc r hr2 => ?_, fun en hen => ?_, fun i L hi => ?_⟩
  ·rcases hs2 i x hi with ⟨rfl, rfl⟩ | ⟨_, h2⟩
   ·intro b hb
    obtain ⟨vs, t, q1, q2, q3⟩ := i1.obj i _ ho b hb
    refine ⟨vs, t, q1, by simpa using q2, fun l v cv hv hcv => ?_⟩
    rw [List.getElem?_set] at hcv
    by_cases hj : off = l
    ·subst hj
     have hlt := (List.getElem?_eq_some_iff.1 hc).1
     rw [if_pos rfl, if_pos hlt] at hcv
     cases hcv
     obtain ⟨r1, r2⟩ := q3 off v _ hv hc
     refine ⟨(hk w K v r1).ext hE fun r hr3 => ?_, r2⟩
     exact i1.content ho x (by simp only [contents]; exact List.mem_of_getElem? hc) r (hr r hr3)
    ·rw [if_neg hj] at hcv
     obtain ⟨r1, r2⟩ := q3 l v cv hv hcv
     exact ⟨r1.ext hE (i1.content ho cv (by simp only [contents]; exact List.mem_of_getElem? hcv)), r2⟩
   ·exact (i1.obj i x h2).ext hE (fun _ _ => rfl) (i1.content h2)
  ·simp only [hl2]
   rcases hs2 i x hi with ⟨rfl, rfl⟩ | ⟨_, h2⟩
   ·simp only [contents] at hcc
    rcases List.mem_or_eq_of_mem_set hcc with hm | rfl
    ·exact i1.cl i _ ho cc (by simp only [contents]; exact hm) r hr2
    ·exact i1.cl i _ ho _ (by simp only [contents]; exact List.mem_of_getElem? hc) r (hr r hr2)
   ·exact i1.cl i x h2 cc hcc r hr2
  ·simp only [hl2]
   exact i1.lg en hen
  ·rcases hs2 i _ hi with ⟨rfl, e2⟩ | ⟨_, h2⟩
   ·cases e2
   ·exact i1.lpd i L h2
 have hs3 : StOk cx G w K { H := H2, lg := M.lg } a e D := ⟨hs.fr.ext (M' := { H := H2, lg := M.lg }) hE, df_ext (M' := { H := H2, lg := M.lg }) hE hs.df, hI2, (rd_ext (M' := { H := H2, lg := M.lg }) hE hs.rd).1⟩
 have h2 := h G w _ a hs3
 exact wpIn_mono h2 fun ex a' w' ⟨e', M', K', D', q1, q2, q3, q4⟩ => ⟨e', M', K', D', q1, q2, q3, hE.trans q4⟩
theorem so_sw {w : World} {K : Nat → Option Nat} {H : List VObj} {v : Value} {g k : Nat} {xs : List (List PV)} (h : RepV w K H v (.so g k xs)) : RepV w K H v (.sw g k (xs.map (List.map .p))) := by
 cases h with
 | so _ _ _ _ h ht =>
  cases h with
  | sl A c _ b off _ f hc hm hk hA hi hw hr =>
   have hg : ∀ {i : Nat} {x : List VV} {j : Nat} {u : VV}, (xs.map (List.map VV.p))[i]? = some x → x[j]? = some u → ∃ x0 u0, xs[i]? = some x0 ∧ x0[j]? = some u0 ∧ u = .p u0 := fun h1 h2 => by
    rw [List.getElem?_map] at h1
    obtain ⟨x0, h3, rfl⟩ := Option.map_eq_some_iff.1 h1
    rw [List.getElem?_map] at h2
    obtain ⟨u0, h4, rfl⟩ := Option.map_eq_some_iff.1 h2
    exact ⟨x0, u0, h3, h4, rfl⟩
   have hsv : RepV w K H (.slice A (xs.map (List.map VV.p)).length c) (.sv k (xs.map (List.map VV.p))) := by
    refine .sv A c k b off _ f (by simpa using hc) hm (fun x hx => ?_) (fun hx => hA (by simpa using hx)) (fun i x j u h1 h2 => ?_) (fun i x j u h1 h2 => ?_) (fun i x j u h1 h2 => ?_) (fun i x j u h1 h2 => ?_)
    ·obtain ⟨x0, h1, rfl⟩ := List.mem_map.1 hx
     rw [List.length_map]; exact hk x0 h1
    ·obtain ⟨x0, u0, h3, h4, rfl⟩ := hg h1 h2
     exact hi i x0 j u0 h3 h4
    ·obtain ⟨x0, u0, h3, h4, rfl⟩ := hg h1 h2
     exact hw i x0 j u0 h3 h4
    ·obtain ⟨x0, u0, h3, h4, rfl⟩ := hg h1 h2
     exact .p _ _ (hr i x0 j u0 h3 h4)
    ·obtain ⟨x0, u0, h3, h4, rfl⟩ := hg h1 h2
     exact repP_isOne (hr i x0 j u0 h3 h4)
   rw [List.length_map] at hsv
   exact .sw _ _ _ _ hsv (by rw [List.length_map]; exact ht)
end
theorem refsLL_pure : ∀ xs : List (List PV), refsLL (xs.map (List.map VV.p)) = []
 | [] => rfl
 | x :: xs => by
  have : ∀ l : List PV, refsL (l.map VV.p) = [] := by
   intro l
   induction l with
   | nil => rfl
   | cons a l ih => rw [List.map_cons, refsL, ih]; rfl
  rw [List.map_cons, refsLL, this, refsLL_pure xs]; rfl
end Go.Proofs.Ytmagiabapakhcaa.Vm

/- The law of who may be inside, on values. (Vm) -/
namespace Go.Proofs.Ytmagiabapakhcaa.Vm
open Go Go.Proofs
end Go.Proofs.Ytmagiabapakhcaa.Vm
