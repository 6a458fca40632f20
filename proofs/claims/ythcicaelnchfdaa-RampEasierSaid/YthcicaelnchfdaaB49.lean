/- A part of the proofs about the chapter of the ramps; it states no condition of its own. -/
import Derived.Test.YthcicaelnchfdaaB35
import Derived.Test.YthcicaelnchfdaaB36
import Derived.Test.YthcicaelnchfdaaB37
import Derived.Test.YthcicaelnchfdaaB48
set_option linter.unusedVariables false
set_option linter.unusedSimpArgs false
/- Yards that are easier, and yards some minutes later, plain. -/
namespace Go.Proofs.Ythcicaelnchfdaa
structure Eas (y x : Ya) : Prop where
 nr : x.ramps.length = y.ramps.length
 nc : x.carts.length = y.carts.length
 sw : x.sweep ≤ y.sweep
 op : ∀ r : Int, (raAt x r).open_ ≤ (raAt y r).open_
 sh : ∀ r : Int, (raAt y r).shut ≤ (raAt x r).shut
 be : ∀ r : Int, (raAt y r).bears ≤ (raAt x r).bears
 fr : ∀ i, (ctAt x i).from_ ≤ (ctAt y i).from_
 un : ∀ i, (ctAt y i).until_ ≤ (ctAt x i).until_
 gr : ∀ i, (ctAt x i).grams ≤ (ctAt y i).grams
 hi : ∀ i, (ctAt x i).takes.hi ≤ (ctAt y i).takes.hi
 rs : ∀ i, (ctAt x i).ramps = (ctAt y i).ramps
theorem Eas.fe {y x : Ya} (h : Eas y x) {q : List St} (hq : Fe y q) : Fe x q := by
 refine ⟨hq.len.trans h.nc.symm, fun i hi => ?_, fun i hi => ?_, fun i hi => ?_, fun i hi => ?_, fun i hi => ?_, fun i hi => ?_, fun i k hi hk hne he => ?_⟩
 ·rw [h.rs]; exact hq.r i hi
 ·have := hq.br i hi; have := h.gr i; have := h.be (stAt q i).ramp; omega
 ·have := hq.f1 i hi; have := h.fr i; omega
 ·have := hq.f2 i hi; have := h.op (stAt q i).ramp; omega
 ·have := hq.f3 i hi; have := h.un i; have := h.hi i; omega
 ·have := hq.f4 i hi; have := h.sh (stAt q i).ramp; have := h.hi i; omega
 ·have a := hq.sep i k hi hk hne he
  have := h.hi i
  have := h.hi k
  have := h.sw
  omega
theorem Eas.only {y x : Ya} (h : Eas y x) {l : List Int} (hl : ChY y l) : Eas (onlyY y l) (onlyY x l) := by
 have at_ : ∀ (z : Ya) (i : Nat), ctAt (onlyY z l) i = if i < l.length then ctAt z (l.getD i 0).toNat else Ct0 := fun z i => by
  split
  ·rename_i hi
   rw [only_at' z l hi]
   simp [hi]
  ·rename_i hi
   unfold ctAt
   rw [List.getD_eq_getElem?_getD, List.getElem?_eq_none (by rw [only_len']; omega)]
   rfl
 refine ⟨h.nr, by rw [only_len', only_len'], h.sw, h.op, h.sh, h.be, fun i => ?_, fun i => ?_, fun i => ?_, fun i => ?_, fun i => ?_⟩ <;> rw [at_, at_] <;> split
 ·exact h.fr _
 ·exact Int.le_refl _
 ·exact h.un _
 ·exact Int.le_refl _
 ·exact h.gr _
 ·exact Int.le_refl _
 ·exact h.hi _
 ·exact Int.le_refl _
 ·exact h.rs _
 ·rfl
theorem Eas.can {y x : Ya} (h : Eas y x) (hy : YaV y) (hx : YaV x) (hs : (servedR y).isSome = true) : (servedR x).isSome = true := by
 obtain ⟨q, hq⟩ := Option.isSome_iff_exists.1 hs
 obtain ⟨z, hz, _⟩ := (servedR_best hx).2 q (h.fe ((servedR_best hy).1 q hq))
 rw [hz]; rfl
theorem Eas.last {y x : Ya} (h : Eas y x) (hy : YaV y) (hx : YaV x) {p q : List St} (hp : servedR y = some p) (hq : servedR x = some q) : lastV x q ≤ lastV y p := by
 have fe := (servedR_best hy).1 p hp
 obtain ⟨z, hz, hle⟩ := (servedR_best hx).2 p (h.fe fe)
 rw [hq] at hz
 cases hz
 have h1 : lastV x p ≤ lastV y p := by
  obtain ⟨a, b⟩ := lastV_le.1 (Int.le_refl (lastV y p))
  refine lastV_le.2 ⟨a, fun i hi hc => ?_⟩
  have := b i hi (by rw [← h.nc]; exact hc)
  have := h.hi i
  omega
 rcases hle with hle | ⟨hle, _⟩ <;> omega
theorem Eas.most {y x : Ya} (h : Eas y x) (hy : YaV y) (hx : YaV x) {l m : List Int} (hl : MostOk y l) (hm : MostOk x m) : l.length ≤ m.length := by
 rcases Nat.lt_or_ge m.length l.length with hlt | hge
 ·have hlx : ChY x l := ⟨fun z hz => by rw [h.nc]; exact hl.ch.m z hz, hl.ch.asc⟩
  have h1 : canB x l = true := (h.only hl.ch).can (hl.ch.ok hy) (hlx.ok hx) hl.can
  have := hm.big l.length hlt (by have := hlx.len; omega) l (ch_choices hlx)
  rw [h1] at this; cases this
 ·exact hge
end Go.Proofs.Ythcicaelnchfdaa

/- The law of all times later, on values. (Vm) -/
namespace Go.Proofs.Ythcicaelnchfdaa.Vm
open Go Go.Proofs
attribute [local irreducible] castF castU fromF fromU oneF oneU yardS
end Go.Proofs.Ythcicaelnchfdaa.Vm
