/- A part of the proofs about the chapter of the ramps; it states no condition of its own. -/
import Derived.Test.YtmiiipdgbkipjaaGreatDoorB16
import Derived.Test.YtmiiipdgbkipjaaGreatDoorB33
set_option linter.unusedVariables false
set_option linter.unusedSimpArgs false
/- Plain: the words of a row, as the program reads them. -/
namespace Go.Proofs.YtmiiipdgbkipjaaGreatDoor
open Go Vm
theorem numR_atoi (s : By) : numR 7 s = if (atoiV s).2 = true ∧ 0 ≤ (atoiV s).1 ∧ s.length ≤ 7 ∧ Lib.itoa (atoiV s).1 = s then some (atoiV s).1 else none := by
 rw [← numP_eq (m := 7) (by omega) s]
 unfold numP atoiV
 cases Lib.atoiAll s with
 | ok x => simp
 | «syntax» => simp
 | range => simp
theorem atoiV_fit (s : By) : -9223372036854775808 ≤ (atoiV s).1 ∧ (atoiV s).1 ≤ 9223372036854775807 := by
 unfold atoiV
 cases h : Lib.atoiAll s with
 | ok x => exact Lib.atoiAll_bounds h
 | «syntax» => exact ⟨show (-9223372036854775808 : Int) ≤ 0 by decide, show (0 : Int) ≤ 9223372036854775807 by decide⟩
 | range => exact Lib.atoiSat_bounds s
theorem numsR_take {m : Nat} {ws : List By} {k : Nat} (hk : k < ws.length) : numsR m (ws.take (k + 1)) = match numsR m (ws.take k), numR m ws[k] with
  | some l, some n => some (l ++ [n])
  | _, _ => none := by
 rw [List.take_succ_eq_append_getElem hk, numsR_app]
 simp only [numsR]
 cases numsR m (ws.take k) <;> cases numR m ws[k] <;> rfl
structure WdI (is0 : Bool) (ws : List By) (k : Nat) (xs : List Int) (is : Bool) : Prop where
 len : xs.length = k
 t : is = true → is0 = true ∧ numsR 7 (ws.take k) = some xs
 f : is = false → is0 = false ∨ numsR 7 (ws.take k) = none
theorem WdI.step {is0 : Bool} {ws : List By} {k : Nat} {xs : List Int} {is is' : Bool} (h : WdI is0 ws k xs is) (hk : k < ws.length) (h1 : is' = true ↔ is = true ∧ (atoiV ws[k]).2 = true ∧ 0 ≤ (atoiV ws[k]).1 ∧ ws[k].length ≤ 7 ∧ Lib.itoa (atoiV ws[k]).1 = ws[k]) : WdI is0 ws (k + 1) (xs ++ [(atoiV ws[k]).1]) is' := by
 refine ⟨by simp [h.len], fun e => ?_, fun e => ?_⟩
 ·obtain ⟨h2, h3⟩ := h1.1 e
  obtain ⟨h4, h5⟩ := h.t h2
  refine ⟨h4, ?_⟩
  rw [numsR_take hk, h5, numR_atoi, if_pos h3]
 ·cases hi : is with
  | false =>
   rcases h.f hi with h2 | h2
   ·exact .inl h2
   ·right
    rw [numsR_take hk, h2]
  | true =>
   obtain ⟨h4, h5⟩ := h.t hi
   right
   have hn : ¬ ((atoiV ws[k]).2 = true ∧ 0 ≤ (atoiV ws[k]).1 ∧ ws[k].length ≤ 7 ∧ Lib.itoa (atoiV ws[k]).1 = ws[k]) := fun h6 => by
    have := h1.2 ⟨hi, h6⟩
    rw [e] at this
    cases this
   rw [numsR_take hk, h5, numR_atoi, if_neg hn]
theorem rsStep_none {i : Nat} {y : Ya} {b : Bool} {row : By} (h : (!b && (decide ((cutL 32 row).headD [] = wYard) == decide (i = 0))) = false ∨ numsR 7 ((cutL 32 row).drop 1) = none) : rsStep i (y, b) row = none := by
 unfold rsStep parseR
 cases hn : numsR 7 ((cutL 32 row).drop 1) with
 | none => rfl
 | some l =>
  simp only [Option.map_some]
  rcases h with h | h
  ·cases b with
   | true => rfl
   | false =>
    simp only [Bool.not_false, Bool.true_and, beq_eq_false_iff_ne, ne_eq] at h
    simp only [Bool.false_eq_true, if_false]
    unfold rsPut
    by_cases hi : i = 0
    ·rw [if_pos hi, if_neg]
     rintro ⟨h1, -⟩
     exact h (by rw [decide_eq_true h1, decide_eq_true hi])
    ·have hw : (cutL 32 row).headD [] = wYard := by
      by_cases hw : (cutL 32 row).headD [] = wYard
      ·exact hw
      ·exact absurd (by rw [decide_eq_false hw, decide_eq_false hi]) h
     rw [if_neg hi, hw, if_neg (fun h => absurd h.1 (by decide)), if_neg (fun h => absurd h.1 (by decide)), if_neg (fun h => absurd h.1 (by decide))]
  ·rw [hn] at h
   cases h
theorem rsStep_some {i : Nat} {y : Ya} {row : By} {l : List Int} (h : numsR 7 ((cutL 32 row).drop 1) = some l) : rsStep i (y, false) row = rsPut i y ((cutL 32 row).headD []) l := by
 unfold rsStep parseR
 rw [h]
 rfl
end Go.Proofs.YtmiiipdgbkipjaaGreatDoor
