/- A part of the proofs about the chapter of the doors; it states no condition of its own. -/
import Derived.Test.YtmagiabapakhcaaB22
set_option linter.unusedVariables false
set_option linter.unusedSimpArgs false
/- A machine on values: regions whose order is drawn: the rule. -/
namespace Go.Proofs.Ytmagiabapakhcaa.Vm
open Go

/-! ### plans -/
theorem nodupB_ok : ∀ {l : List Oper}, nodupB (l.filterMap (·.dst)) = true → ∀ (i j : Nat) (o o' : Oper) (d : Nat), l[i]? = some o → l[j]? = some o' → o.dst = some d → o'.dst = some d → i = j
  | [], _, i, j, o, o', d, h, _, _, _ => by simp at h
  | x :: l, hn, i, j, o, o', d, hi, hj, ho, ho' => by
    have key : ∀ (j : Nat) (o' : Oper), x.dst = some d → l[j]? = some o' → o'.dst = some d → False := fun j o' hx hj ho' => by
      rw [List.filterMap_cons, hx] at hn
      simp only [nodupB, Bool.and_eq_true, Bool.not_eq_true', List.any_eq_false] at hn
      exact hn.1 d (List.mem_filterMap.2 ⟨o', List.mem_of_getElem? hj, ho'⟩) (by simp)
    have hn' : nodupB (l.filterMap (·.dst)) = true := by
      rw [List.filterMap_cons] at hn
      split at hn
      · exact hn
      · simp only [nodupB, Bool.and_eq_true] at hn; exact hn.2
    cases i with
    | zero =>
      cases j with
      | zero => rfl
      | succ j =>
        simp at hi hj
        subst hi
        exact (key j o' ho hj ho').elim
    | succ i =>
      cases j with
      | zero =>
        simp at hi hj
        subst hj
        exact (key i o ho' hi ho).elim
      | succ j => rw [nodupB_ok hn' i j o o' d (by simpa using hi) (by simpa using hj) ho ho']
theorem chainOk_ok {ops : Array Oper} {pm : List Nat} (hpm : ∀ k j, Nat.testBit (pm.getD k 0) j = true → Pre ops j k) : ∀ {E : List Nat}, chainOk pm E = true → ∀ j x y, E[j]? = some x → E[j + 1]? = some y → Pre ops x y
  | [], _, j, x, y, h, _ => by simp at h
  | [a], _, j, x, y, h, h' => by simp at h'
  | a :: b :: r, hc, j, x, y, h, h' => by
    simp only [chainOk, Bool.and_eq_true] at hc
    cases j with
    | zero =>
      simp at h h'
      subst h h'
      exact hpm _ _ hc.1
    | succ j => exact chainOk_ok hpm hc.2 j x y (by simpa using h) (by simpa using h')
theorem eIdx_mem {ops : Array Oper} {i : Nat} : i ∈ eIdx ops ↔ ∃ o, ops[i]? = some o ∧ isE o = true := by
  unfold eIdx
  rw [List.mem_filter, List.mem_range]
  constructor
  · rintro ⟨h1, h2⟩
    rw [Array.getElem?_eq_getElem h1] at h2 ⊢
    exact ⟨_, rfl, h2⟩
  · rintro ⟨o, h1, h2⟩
    exact ⟨(Array.getElem?_eq_some_iff.1 h1).1, by rw [h1]; exact h2⟩
theorem eIdx_nodup (ops : Array Oper) : (eIdx ops).Nodup := by unfold eIdx; exact (List.filter_sublist).nodup List.nodup_range

def rdr : Go.Op → Bool
  | .load .. => true
  | .lookup .. => true
  | .call .. => true
  | _ => false
theorem not_rdr {T : Tab} {o : Oper} {ρ : Operand → VV} {M : Mem} {v : VV} (h : vop T o.op ρ M = some (v, M)) (hr : rdr o.op = false) (he : isE o = false) (ha : isA o = false) (M2 : Mem) : vop T o.op ρ M2 = some (v, M2) := by
  obtain ⟨dst, op, type, pos, after, guard⟩ := o
  simp only at h hr ⊢
  have key : ∀ {x : Option VV}, x.map (·, M) = some (v, M) → x.map (·, M2) = some (v, M2) := fun {x} hx => by
    cases x with
    | none => cases hx
    | some u => simp at hx; simp [hx]
  cases op <;> first | (simp [rdr] at hr; done) | (simp [isE] at he; done) | (simp [isA] at ha; done) | (simp only [vop] at h; cases h; done) | exact key h | skip
  all_goals simp only [vop] at h ⊢
  all_goals first
    | (cases h; rfl)
    | (generalize (List.all _ _ && List.all _ _) = b at h ⊢; cases b <;> simp_all; done)
    | (split at h <;> first | (cases h; done) | (exact key h) | (cases h; rfl) | (cases h; simp_all; done) | (simp_all; done))
end Go.Proofs.Ytmagiabapakhcaa.Vm
