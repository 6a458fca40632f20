/- A part of the proofs about the chapter of the ramps; it states no condition of its own. -/
import Derived.Test.YtkipednlefbfpaaDoorB13
import Derived.Test.YtkipednlefbfpaaDoorB20
import Derived.Test.YtkipednlefbfpaaDoorB22
set_option linter.unusedVariables false
set_option linter.unusedSimpArgs false
/- When sets of carts can be away, plain: on all ramps. -/
namespace Go.Proofs.YtkipednlefbfpaaDoor
def maskOf (f : Nat → Bool) : Nat → Nat
 | 0 => 0
 | n + 1 => maskOf f n ||| (if f n then 2 ^ n else 0)
theorem maskOf_bit (f : Nat → Bool) : ∀ n i, (maskOf f n).testBit i = (decide (i < n) && f i)
 | 0, i => by simp [maskOf]
 | n + 1, i => by
  rw [maskOf, Nat.testBit_or, maskOf_bit f n i]
  by_cases h : i = n
  ·subst h
   cases hf : f i <;> simp [hf, Nat.testBit_two_pow]
  ·have h2 : (if f n = true then 2 ^ n else 0).testBit i = false := by
    split
    ·rw [Nat.testBit_two_pow]; simp; omega
    ·simp
   rw [h2, Bool.or_false]
   by_cases h3 : i < n
   ·rw [decide_eq_true h3, decide_eq_true (by omega)]
   ·rw [decide_eq_false h3, decide_eq_false (by omega)]
structure AsK (R : Ry) (k s : Nat) (V : Int) (p : Nat → Nat × Int) : Prop where
 rk : ∀ c, s.testBit c = true → (p c).1 < k
 may : ∀ c, s.testBit c = true → mayB R c (p c).1 = true
 f1 : ∀ c, s.testBit c = true → (ctAt R.y c).from_ ≤ (p c).2
 f2 : ∀ c, s.testBit c = true → (rAt R (p c).1).open_ ≤ (p c).2
 f3 : ∀ c, s.testBit c = true → (p c).2 + (ctAt R.y c).takes.hi ≤ limF R (p c).1 c
 v : ∀ c, s.testBit c = true → (p c).2 + (ctAt R.y c).takes.hi ≤ V
 mu : ∀ c, s.testBit c = true → (mustAt R (p c).1).testBit c = true → (p c).2 = frmAt R c
 mst : ∀ c, s.testBit c = true → ∀ r, r < k → (p c).1 ≤ r → (mustAt R r).testBit c = true → (p c).1 = r
 sep : ∀ c d, s.testBit c = true → s.testBit d = true → c ≠ d → (p c).1 = (p d).1 → (p c).2 + (ctAt R.y c).takes.hi + R.y.sweep ≤ (p d).2 ∨ (p d).2 + (ctAt R.y d).takes.hi + R.y.sweep ≤ (p c).2
theorem limF_eq (R : Ry) (r c : Nat) : limF R r c = min (min (ctAt R.y c).until_ (rAt R r).shut) R.til := rfl
theorem allL_iff {R : Ry} (hR : RyOk R) : ∀ (k s : Nat) (V : Int), k ≤ R.y.ramps.length → s < 2 ^ R.y.carts.length → 0 ≤ V → V < never → ((allL R k).getD s 0 ≤ V ↔ ∃ p, AsK R k s V p)
 | 0, s, V, _, hs, h0, hV => by
  have hm := hR.y.m1
  have h2n : 2 ^ R.y.carts.length ≤ 128 := Nat.pow_le_pow_right (n := 2) (by decide) hm
  rcases Nat.eq_zero_or_pos s with hz | hz
  ·subst hz
   constructor
   ·intro _
    exact ⟨fun _ => (0, 0), fun c hc => by simp at hc, fun c hc => by simp at hc, fun c hc => by simp at hc, fun c hc => by simp at hc, fun c hc => by simp at hc, fun c hc => by simp at hc, fun c hc => by simp at hc, fun c hc => by simp at hc, fun c d hc => by simp at hc⟩
   ·intro _
    simpa [allL] using h0
  ·constructor
   ·intro h
    obtain ⟨j, rfl⟩ : ∃ j, s = j + 1 := ⟨s - 1, by omega⟩
    have : (allL R 0).getD (j + 1) 0 = never := by
     have hj : j < 127 := by omega
     show (List.replicate 127 never).getD j 0 = never
     rw [List.getD_eq_getElem?_getD, List.getElem?_replicate, if_pos hj]
     rfl
    omega
   ·rintro ⟨p, hp⟩
    obtain ⟨c, hc⟩ := Nat.exists_testBit_of_ne_zero (show s ≠ 0 by omega)
    have := hp.rk c hc
    omega
 | k + 1, s, V, hk, hs, h0, hV => by
  have hm := hR.y.m1
  have h2n : 2 ^ R.y.carts.length ≤ 128 := Nat.pow_le_pow_right (n := 2) (by decide) hm
  have hkr : k < R.y.ramps.length := by omega
  have hbd : ∀ c, s.testBit c = true → c < R.y.carts.length := fun c hc => by
   rcases Nat.lt_or_ge c R.y.carts.length with h | h
   ·exact h
   ·have : s.testBit c = false := Nat.testBit_lt_two_pow (Nat.lt_of_lt_of_le hs (Nat.pow_le_pow_right (by decide) h))
    rw [this] at hc; cases hc
  have hsd : ∀ q c, (sdiff s q).testBit c = true ↔ s.testBit c = true ∧ q.testBit c = false := fun q c => by
   rw [sdiff_bit]
   cases s.testBit c <;> cases q.testBit c <;> simp
  rw [allL_get hm hs, minP, fold_le (g := fun q => if q &&& mustAt R k = s &&& mustAt R k then some (max ((doneL R k).getD q 0) ((allL R k).getD (sdiff s q) 0)) else none) (fun m q => by
   unfold partF
   split <;> rfl)]
  constructor
  ·rintro (h | ⟨q, hq, x, hx, hxV⟩)
   ·omega
   ·rw [mem_subsTo] at hq
    split at hx
    case isFalse => cases hx
    case isTrue hmus =>
    cases hx
    have hmu2 : ∀ c, s.testBit c = true → (mustAt R k).testBit c = true → q.testBit c = true := fun c hc hmc => by
     have : (s &&& mustAt R k).testBit c = true := by rw [Nat.testBit_and, hc, hmc]; rfl
     rw [← hmus, Nat.testBit_and, Bool.and_eq_true] at this
     exact this.1
    have hqs : q < 2 ^ R.y.carts.length := by
     have : q &&& s ≤ s := Nat.and_le_right
     omega
    obtain ⟨p, hp⟩ := (allL_iff hR k (sdiff s q) V (by omega) (Nat.lt_of_le_of_lt (sdiff_le _ _) hs) h0 hV).1 (by omega)
    obtain ⟨g, hg⟩ : ∃ g, OnR R k q V g := by
     rcases Nat.eq_zero_or_pos q with hz | hz
     ·subst hz
      exact ⟨fun _ => 0, fun c hc => by simp at hc, fun c hc => by simp at hc, fun c hc => by simp at hc, fun c hc => by simp at hc, fun c hc => by simp at hc, fun c hc => by simp at hc, fun c d hc => by simp at hc⟩
     ·exact (done_iff hR hkr q V hz hqs hV).1 (by omega)
    have hP : ∀ c, q.testBit c = true → (fun c => if q.testBit c then (k, g c) else p c) c = (k, g c) := fun c h => by simp [h]
    have hN : ∀ c, q.testBit c = false → (fun c => if q.testBit c then (k, g c) else p c) c = p c := fun c h => by simp [h]
    refine ⟨fun c => if q.testBit c then (k, g c) else p c, fun c hc => ?_, fun c hc => ?_, fun c hc => ?_, fun c hc => ?_, fun c hc => ?_, fun c hc => ?_, fun c hc hmc => ?_, fun c hc r hr hle hmc => ?_, fun c d hc hd hne he => ?_⟩
    ·cases hb : q.testBit c with
     | true => simp
     | false => simp only [Bool.false_eq_true, if_false]; have := hp.rk c ((hsd q c).2 ⟨hc, hb⟩); omega
    ·cases hb : q.testBit c with
     | true => simp only [if_true]; exact hg.may c hb
     | false => simp only [Bool.false_eq_true, if_false]; exact hp.may c ((hsd q c).2 ⟨hc, hb⟩)
    ·cases hb : q.testBit c with
     | true => simp only [if_true]; exact hg.f1 c hb
     | false => simp only [Bool.false_eq_true, if_false]; exact hp.f1 c ((hsd q c).2 ⟨hc, hb⟩)
    ·cases hb : q.testBit c with
     | true => simp only [if_true]; exact hg.f2 c hb
     | false => simp only [Bool.false_eq_true, if_false]; exact hp.f2 c ((hsd q c).2 ⟨hc, hb⟩)
    ·cases hb : q.testBit c with
     | true => simp only [if_true]; exact hg.f3 c hb
     | false => simp only [Bool.false_eq_true, if_false]; exact hp.f3 c ((hsd q c).2 ⟨hc, hb⟩)
    ·cases hb : q.testBit c with
     | true => simp only [if_true]; exact hg.v c hb
     | false => simp only [Bool.false_eq_true, if_false]; exact hp.v c ((hsd q c).2 ⟨hc, hb⟩)
    ·cases hb : q.testBit c with
     | true =>
      simp only [hb, if_true] at hmc ⊢
      exact hg.mu c hb hmc
     | false =>
      simp only [hb, Bool.false_eq_true, if_false] at hmc ⊢
      exact hp.mu c ((hsd q c).2 ⟨hc, hb⟩) hmc
    ·cases hb : q.testBit c with
     | true =>
      simp only [hb, if_true] at hle ⊢
      omega
     | false =>
      simp only [hb, Bool.false_eq_true, if_false] at hle ⊢
      by_cases hrk : r = k
      ·subst hrk
       have := hmu2 c hc hmc
       rw [hb] at this; cases this
      ·exact hp.mst c ((hsd q c).2 ⟨hc, hb⟩) r (by omega) hle hmc
    ·cases hb : q.testBit c with
     | true =>
      cases hb2 : q.testBit d with
      | true =>
       simp only [if_true]
       exact hg.sep c d hb hb2 hne
      | false =>
       simp only [hb, hb2, if_true, Bool.false_eq_true, if_false] at he ⊢
       have := hp.rk d ((hsd q d).2 ⟨hd, hb2⟩)
       omega
     | false =>
      cases hb2 : q.testBit d with
      | true =>
       simp only [hb, hb2, if_true, Bool.false_eq_true, if_false] at he ⊢
       have := hp.rk c ((hsd q c).2 ⟨hc, hb⟩)
       omega
      | false =>
       simp only [hb, hb2, Bool.false_eq_true, if_false] at he ⊢
       exact hp.sep c d ((hsd q c).2 ⟨hc, hb⟩) ((hsd q d).2 ⟨hd, hb2⟩) hne he
  ·rintro ⟨p, hp⟩
   right
   have hqb : ∀ c, (maskOf (fun c => s.testBit c && decide ((p c).1 = k)) R.y.carts.length).testBit c = true ↔ s.testBit c = true ∧ (p c).1 = k := fun c => by
    rw [maskOf_bit]
    simp only [Bool.and_eq_true, decide_eq_true_eq]
    constructor
    ·exact fun h => h.2
    ·exact fun h => ⟨hbd c h.1, h⟩
   generalize maskOf (fun c => s.testBit c && decide ((p c).1 = k)) R.y.carts.length = q at hqb
   have hqs : q &&& s = q := by
    apply Nat.eq_of_testBit_eq
    intro c
    rw [Nat.testBit_and]
    cases hb : q.testBit c with
    | false => rfl
    | true => rw [((hqb c).1 hb).1]; rfl
   have hmus : q &&& mustAt R k = s &&& mustAt R k := by
    apply Nat.eq_of_testBit_eq
    intro c
    rw [Nat.testBit_and, Nat.testBit_and]
    cases hmc : (mustAt R k).testBit c with
    | false => simp
    | true =>
     rw [Bool.and_true, Bool.and_true]
     cases hsc : s.testBit c with
     | false =>
      cases hb : q.testBit c with
      | false => rfl
      | true => rw [((hqb c).1 hb).1] at hsc; cases hsc
     | true =>
      have := hp.rk c hsc
      exact (hqb c).2 ⟨hsc, hp.mst c hsc k (by omega) (by omega) hmc⟩
   refine ⟨q, mem_subsTo.2 hqs, _, if_pos hmus, ?_⟩
   have hq2 : q < 2 ^ R.y.carts.length := by
    have : q &&& s ≤ s := Nat.and_le_right
    omega
   have hD : (doneL R k).getD q 0 ≤ V := by
    rcases Nat.eq_zero_or_pos q with hz | hz
    ·rw [hz, doneL_zero R k hm]; exact h0
    ·refine (done_iff hR hkr q V hz hq2 hV).2 ⟨fun c => (p c).2, fun c hc => ?_, fun c hc => hp.f1 c ((hqb c).1 hc).1, fun c hc => ?_, fun c hc => ?_, fun c hc => hp.v c ((hqb c).1 hc).1, fun c hc hmc => ?_, fun c d hc hd hne => ?_⟩
     ·have h := (hqb c).1 hc
      have := hp.may c h.1
      rwa [h.2] at this
     ·have h := (hqb c).1 hc
      have := hp.f2 c h.1
      rwa [h.2] at this
     ·have h := (hqb c).1 hc
      have := hp.f3 c h.1
      rwa [h.2] at this
     ·have h := (hqb c).1 hc
      exact hp.mu c h.1 (by rw [h.2]; exact hmc)
     ·have h := (hqb c).1 hc
      have h' := (hqb d).1 hd
      exact hp.sep c d h.1 h'.1 hne (by rw [h.2, h'.2])
   have hA : (allL R k).getD (sdiff s q) 0 ≤ V := by
    refine (allL_iff hR k (sdiff s q) V (by omega) (Nat.lt_of_le_of_lt (sdiff_le _ _) hs) h0 hV).2 ⟨p, fun c hc => ?_, fun c hc => hp.may c ((hsd q c).1 hc).1, fun c hc => hp.f1 c ((hsd q c).1 hc).1, fun c hc => hp.f2 c ((hsd q c).1 hc).1, fun c hc => hp.f3 c ((hsd q c).1 hc).1, fun c hc => hp.v c ((hsd q c).1 hc).1, fun c hc => hp.mu c ((hsd q c).1 hc).1, fun c hc r hr hle => hp.mst c ((hsd q c).1 hc).1 r (by omega) hle, fun c d hc hd => hp.sep c d ((hsd q c).1 hc).1 ((hsd q d).1 hd).1⟩
    obtain ⟨h1, h2⟩ := (hsd q c).1 hc
    have h3 := hp.rk c h1
    have h4 : (p c).1 ≠ k := fun e => by
     rw [(hqb c).2 ⟨h1, e⟩] at h2; cases h2
    omega
   omega
theorem soonest_iff {R : Ry} (hR : RyOk R) {s : Nat} {V : Int} (hs : s < 2 ^ R.y.carts.length) (h0 : 0 ≤ V) (hV : V < never) : (soonestL R).getD s 0 ≤ V ↔ ∃ p, AsK R R.y.ramps.length s V p :=
 allL_iff hR R.y.ramps.length s V (Nat.le_refl _) hs h0 hV
end Go.Proofs.YtkipednlefbfpaaDoor

/- Plans that serve all carts, plain. -/
namespace Go.Proofs.YtkipednlefbfpaaDoor
structure Fe (y : Ya) (q : List St) : Prop where
 len : q.length = y.carts.length
 r : ∀ i, i < q.length → (stAt q i).ramp ∈ (ctAt y i).ramps
 br : ∀ i, i < q.length → (ctAt y i).grams ≤ (raAt y (stAt q i).ramp).bears
 f1 : ∀ i, i < q.length → (ctAt y i).from_ ≤ (stAt q i).from_
 f2 : ∀ i, i < q.length → (raAt y (stAt q i).ramp).open_ ≤ (stAt q i).from_
 f3 : ∀ i, i < q.length → (stAt q i).from_ + (ctAt y i).takes.hi ≤ (ctAt y i).until_
 f4 : ∀ i, i < q.length → (stAt q i).from_ + (ctAt y i).takes.hi ≤ (raAt y (stAt q i).ramp).shut
 sep : ∀ i k, i < q.length → k < q.length → i ≠ k → (stAt q i).ramp = (stAt q k).ramp → (stAt q i).from_ + (ctAt y i).takes.hi + y.sweep ≤ (stAt q k).from_ ∨ (stAt q k).from_ + (ctAt y k).takes.hi + y.sweep ≤ (stAt q i).from_
theorem stAt_repl {n i : Nat} {s : St} (h : i < n) : stAt (List.replicate n s) i = s := by
 unfold stAt
 rw [List.getD_eq_getElem?_getD, List.getElem?_replicate, if_pos h]; rfl
theorem tkAt_repl (n i : Nat) : tkAt (List.replicate n 0) i = 0 := by
 unfold tkAt
 rw [List.getD_eq_getElem?_getD, List.getElem?_replicate]
 split <;> rfl
theorem ext_fe {y : Ya} (hy : YaV y) {q : List St} : Ext y (List.replicate y.carts.length ⟨-1, 0⟩) (List.replicate y.ramps.length 0) q ↔ Fe y q := by
 have hno : ∀ i, i < y.carts.length → ¬ 0 ≤ (stAt (List.replicate y.carts.length (⟨-1, 0⟩ : St)) i).ramp := fun i hi => by
  rw [stAt_repl hi]; decide
 constructor
 ·intro h
  have hl : q.length = y.carts.length := by rw [h.len]; simp
  have hb : ∀ i, i < q.length → i < (List.replicate y.carts.length (⟨-1, 0⟩ : St)).length ∧ i < y.carts.length := fun i hi => by simp; omega
  exact ⟨hl, fun i hi => h.r i (hb i hi).1 (hno i (hb i hi).2), fun i hi => h.br i (hb i hi).1 (hno i (hb i hi).2), fun i hi => h.f1 i (hb i hi).1 (hno i (hb i hi).2), fun i hi => h.f2 i (hb i hi).1 (hno i (hb i hi).2), fun i hi => h.f3 i (hb i hi).1 (hno i (hb i hi).2), fun i hi => h.f4 i (hb i hi).1 (hno i (hb i hi).2), fun i k hi hk hne he => h.sep i k (hb i hi).1 (hb k hk).1 hne (hno i (hb i hi).2) (hno k (hb k hk).2) he⟩
 ·intro h
  have hl := h.len
  have hb : ∀ i, i < (List.replicate y.carts.length (⟨-1, 0⟩ : St)).length → i < q.length ∧ i < y.carts.length := fun i hi => by simp at hi; omega
  refine ⟨by simp [hl], fun i hi h0 => absurd h0 (hno i (hb i hi).2), fun i hi _ => h.r i (hb i hi).1, fun i hi _ => h.br i (hb i hi).1, fun i hi _ => h.f1 i (hb i hi).1, fun i hi _ => h.f2 i (hb i hi).1, fun i hi _ => h.f3 i (hb i hi).1, fun i hi _ => h.f4 i (hb i hi).1, fun i hi _ => ?_, fun i k hi hk hne _ _ he => h.sep i k (hb i hi).1 (hb k hk).1 hne he⟩
  rw [tkAt_repl]
  have c := (hy.ct _ (ctAt_mem (hb i hi).2)).f0
  have := h.f1 i (hb i hi).1
  omega
theorem servedR_best {y : Ya} (hy : YaV y) : (∀ x, servedR y = some x → Fe y x) ∧ ∀ q, Fe y q → ∃ x, servedR y = some x ∧ leP y x q := by
 have hsv : SvOk y (List.replicate y.carts.length ⟨-1, 0⟩) (List.replicate y.ramps.length 0) := by
  refine ⟨by simp, by simp, fun i hi => ?_, fun r hr => ?_⟩
  ·rw [stAt_repl (by simpa using hi)]; decide
  ·rw [tkAt_repl]; decide
 have hun : un (List.replicate y.carts.length ⟨-1, 0⟩) ≤ y.carts.length := by
  unfold un
  exact Nat.le_trans List.countP_le_length (by simp)
 have h := servR_best hy _ _ _ hsv hun
 exact ⟨fun x hx => (ext_fe hy).1 (h.1 x hx), fun q hq => h.2 q ((ext_fe hy).2 hq)⟩
theorem Fe.bd {y : Ya} (hy : YaV y) {q : List St} (h : Fe y q) {i : Nat} (hi : i < q.length) : 0 ≤ (stAt q i).ramp ∧ (stAt q i).ramp < y.ramps.length ∧ 0 ≤ (stAt q i).from_ ∧ (stAt q i).from_ < 480 ∧ (stAt q i).from_ + (ctAt y i).takes.hi ≤ 480 ∧ 1 ≤ (ctAt y i).takes.hi := by
 have hl := h.len
 have c := hy.ct _ (ctAt_mem (y := y) (i := i) (by omega))
 have r := c.r _ (h.r i hi)
 have a := h.f1 i hi
 have b := h.f3 i hi
 have := c.f0
 have := c.u1
 have := c.l0
 have := c.lh
 omega
theorem Fe.pl {y : Ya} (hy : YaV y) {q : List St} (h : Fe y q) : PlV y q :=
 ⟨h.len, fun i hi => (h.bd hy hi).1, fun i hi => (h.bd hy hi).2.1, h.r, h.br, fun i hi => (h.bd hy hi).2.2.1, fun i hi => by have := h.bd hy hi; omega⟩
theorem longest_at {y : Ya} {i : Nat} (h : i < y.carts.length) : tkAt (longest y) i = (ctAt y i).takes.hi := by simp [tkAt, longest, ctAt, h]
theorem okPair_iff {y : Ya} {p : List St} {tk : List Int} {i k : Nat} : okPair y p tk i k = true ↔ (k ≠ i → (stAt p k).ramp = (stAt p i).ramp → ((stAt p i).from_ < (stAt p k).from_ ∨ ((stAt p k).from_ = (stAt p i).from_ ∧ i < k)) → (stAt p i).from_ + tkAt tk i + y.sweep ≤ (stAt p k).from_) := by
 unfold okPair
 simp only [Bool.not_eq_true', Bool.and_eq_false_iff, Bool.or_eq_false_iff, decide_eq_false_iff_not]
 constructor
 ·intro h h1 h2 h3
  rcases h with ((h | h) | h) | h
  ·exact absurd h1 h
  ·exact absurd h2 h
  ·rcases h3 with h3 | h3
   ·exact absurd h3 h.1
   ·rcases h.2 with h4 | h4
    ·exact absurd h3.1 h4
    ·exact absurd h3.2 h4
  ·omega
 ·intro h
  by_cases h1 : k ≠ i
  ·by_cases h2 : (stAt p k).ramp = (stAt p i).ramp
   ·by_cases h3 : (stAt p i).from_ < (stAt p k).from_ ∨ ((stAt p k).from_ = (stAt p i).from_ ∧ i < k)
    ·have := h h1 h2 h3
     right; omega
    ·left; right
     refine ⟨fun h4 => h3 (.inl h4), ?_⟩
     by_cases h5 : (stAt p k).from_ = (stAt p i).from_
     ·right; exact fun h6 => h3 (.inr ⟨h5, h6⟩)
     ·left; exact h5
   ·left; left; right; exact h2
  ·left; left; left; exact h1
theorem okSelf_iff {y : Ya} {p : List St} {tk : List Int} {i : Nat} : okSelf y p tk i = true ↔ (ctAt y i).from_ ≤ (stAt p i).from_ ∧ (raAt y (stAt p i).ramp).open_ ≤ (stAt p i).from_ ∧ (stAt p i).from_ + tkAt tk i ≤ (ctAt y i).until_ ∧ (stAt p i).from_ + tkAt tk i ≤ (raAt y (stAt p i).ramp).shut := by
 unfold okSelf
 simp only [Bool.and_eq_true, decide_eq_true_eq]
 constructor
 ·rintro ⟨⟨⟨a, b⟩, c⟩, d⟩; exact ⟨a, b, c, d⟩
 ·rintro ⟨a, b, c, d⟩; exact ⟨⟨⟨a, b⟩, c⟩, d⟩
theorem heldB_iff {y : Ya} {p : List St} {tk : List Int} : heldB y p tk = true ↔ (∀ i, i < p.length → okSelf y p tk i = true) ∧ ∀ i k, i < p.length → k < p.length → okPair y p tk i k = true := by
 unfold heldB okAll
 rw [List.all_eq_true]
 simp only [List.mem_range, Bool.and_eq_true, List.all_eq_true]
 constructor
 ·intro h; exact ⟨fun i hi => (h i hi).1, fun i k hi hk => (h i hi).2 k hk⟩
 ·intro h i hi; exact ⟨h.1 i hi, fun k hk => h.2 i k hi hk⟩
def ry0 (y : Ya) : Ry := ⟨y, List.replicate 3 (0, 0), List.replicate 7 0, 480⟩
theorem ry0_ok {y : Ya} (hy : YaV y) : RyOk (ry0 y) := by
 refine ⟨hy, rfl, rfl, fun r => ?_, fun c => ?_, by simp [ry0], by simp [ry0]⟩
 ·have : (List.replicate 3 ((0 : Nat), (0 : Nat))).getD r (0, 0) = (0, 0) := by
   rw [List.getD_eq_getElem?_getD, List.getElem?_replicate]
   split <;> rfl
  unfold mustAt notAt ry0
  simp only [this]
  decide
 ·have : (List.replicate 7 (0 : Int)).getD c 0 = 0 := by
   rw [List.getD_eq_getElem?_getD, List.getElem?_replicate]
   split <;> rfl
  unfold frmAt ry0
  simp only [this]
  decide
def planOf (n : Nat) (p : Nat → Nat × Int) : List St := (List.range n).map fun i => ⟨(p i).1, (p i).2⟩
theorem planOf_at {n i : Nat} {p : Nat → Nat × Int} (h : i < n) : stAt (planOf n p) i = ⟨(p i).1, (p i).2⟩ := by simp [planOf, stAt, h]
theorem planOf_len (n : Nat) (p : Nat → Nat × Int) : (planOf n p).length = n := by simp [planOf]
theorem full_bit {n i : Nat} : (2 ^ n - 1).testBit i = true ↔ i < n := by rw [Nat.testBit_two_pow_sub_one]; simp
theorem ask_fe {R : Ry} (hR : RyOk R) {V : Int} {p : Nat → Nat × Int} (h : AsK R R.y.ramps.length (2 ^ R.y.carts.length - 1) V p) (hV : 0 ≤ V) : Fe R.y (planOf R.y.carts.length p) ∧ lastV R.y (planOf R.y.carts.length p) ≤ V := by
 have hb : ∀ i, i < R.y.carts.length → (2 ^ R.y.carts.length - 1).testBit i = true := fun i hi => full_bit.2 hi
 have hm : ∀ i, i < R.y.carts.length → ((p i).1 : Int) ∈ (ctAt R.y i).ramps ∧ (ctAt R.y i).grams ≤ (raAt R.y (p i).1).bears := fun i hi => by
  have := h.may i (hb i hi)
  unfold mayB rAt at this
  simp only [Bool.and_eq_true, decide_eq_true_eq] at this
  exact this.1
 have hl := planOf_len R.y.carts.length p
 refine ⟨⟨hl, fun i hi => ?_, fun i hi => ?_, fun i hi => ?_, fun i hi => ?_, fun i hi => ?_, fun i hi => ?_, fun i k hi hk hne he => ?_⟩, lastV_le.2 ⟨hV, fun i hi hi2 => ?_⟩⟩
 ·rw [hl] at hi
  rw [planOf_at hi]; exact (hm i hi).1
 ·rw [hl] at hi
  rw [planOf_at hi]; exact (hm i hi).2
 ·rw [hl] at hi
  rw [planOf_at hi]; exact h.f1 i (hb i hi)
 ·rw [hl] at hi
  rw [planOf_at hi]; exact h.f2 i (hb i hi)
 ·rw [hl] at hi
  rw [planOf_at hi]
  have := h.f3 i (hb i hi)
  rw [limF_eq] at this
  simp only
  omega
 ·rw [hl] at hi
  rw [planOf_at hi]
  have := h.f3 i (hb i hi)
  rw [limF_eq] at this
  unfold rAt at this
  simp only
  omega
 ·rw [hl] at hi hk
  rw [planOf_at hi, planOf_at hk] at he ⊢
  simp only at he ⊢
  exact h.sep i k (hb i hi) (hb k hk) hne (by omega)
 ·rw [hl] at hi
  rw [planOf_at hi]; exact h.v i (hb i hi)
def slotsOf (q : List St) (i : Nat) : Nat × Int := ((stAt q i).ramp.toNat, (stAt q i).from_)
theorem fe_ask {R : Ry} (hR : RyOk R) {V : Int} {q : List St} (h : Fe R.y q) (hv : lastV R.y q ≤ V) (ht : lastV R.y q ≤ R.til) (hno : ∀ i, i < q.length → (notAt R (stAt q i).ramp.toNat).testBit i = false)
  (hmu : ∀ i, i < q.length → (mustAt R (stAt q i).ramp.toNat).testBit i = true → (stAt q i).from_ = frmAt R i) (hmk : ∀ i, i < q.length → ∀ r, r < R.y.ramps.length → (mustAt R r).testBit i = true → (stAt q i).ramp.toNat = r) :
  AsK R R.y.ramps.length (2 ^ R.y.carts.length - 1) V (slotsOf q) := by
 have hl := h.len
 have hb : ∀ i, (2 ^ R.y.carts.length - 1).testBit i = true → i < q.length := fun i hi => by
  have := full_bit.1 hi
  omega
 have hc : ∀ i, i < q.length → (((stAt q i).ramp.toNat : Nat) : Int) = (stAt q i).ramp := fun i hi => by
  have := (h.bd hR.y hi).1
  omega
 refine ⟨fun i hi => ?_, fun i hi => ?_, fun i hi => h.f1 i (hb i hi), fun i hi => ?_, fun i hi => ?_, fun i hi => ?_, fun i hi hm => hmu i (hb i hi) hm, fun i hi r hr _ hm => hmk i (hb i hi) r hr hm, fun i k hi hk hne he => ?_⟩
 ·have := h.bd hR.y (hb i hi)
  show (stAt q i).ramp.toNat < _
  omega
 ·unfold mayB rAt slotsOf
  simp only
  rw [hc i (hb i hi), hno i (hb i hi)]
  simp only [Bool.and_eq_true, decide_eq_true_eq]
  exact ⟨⟨h.r i (hb i hi), h.br i (hb i hi)⟩, rfl⟩
 ·unfold rAt slotsOf
  simp only
  rw [hc i (hb i hi)]
  exact h.f2 i (hb i hi)
 ·rw [limF_eq]
  unfold rAt slotsOf
  simp only
  rw [hc i (hb i hi)]
  have a := h.f3 i (hb i hi)
  have b := h.f4 i (hb i hi)
  have c := lastV_at (y := R.y) (p := q) (i := i) (hb i hi) (by have := hb i hi; omega)
  omega
 ·have c := lastV_at (y := R.y) (p := q) (i := i) (hb i hi) (by have := hb i hi; omega)
  show (stAt q i).from_ + _ ≤ V
  omega
 ·refine h.sep i k (hb i hi) (hb k hk) hne ?_
  have a := (h.bd hR.y (hb i hi)).1
  have b := (h.bd hR.y (hb k hk)).1
  have : (stAt q i).ramp.toNat = (stAt q k).ramp.toNat := he
  omega
end Go.Proofs.YtkipednlefbfpaaDoor

/- The plan that is found, plain. -/
namespace Go.Proofs.YtkipednlefbfpaaDoor
def putW (k c r : Nat) (l : List (Nat × Nat)) : List (Nat × Nat) := l.mapIdx fun i w => if i < k then (if i = r then (w.1 ||| 2 ^ c, w.2) else (w.1, w.2 ||| 2 ^ c)) else w
def putR (R : Ry) (c r : Nat) (f : Int) : Ry := { R with wk := putW R.y.ramps.length c r R.wk, frm := R.frm.set c f }
theorem putW_at (k c r : Nat) (l : List (Nat × Nat)) (i : Nat) (hk : k ≤ l.length) : (putW k c r l).getD i (0, 0) = if i < k then (if i = r then ((l.getD i (0, 0)).1 ||| 2 ^ c, (l.getD i (0, 0)).2) else ((l.getD i (0, 0)).1, (l.getD i (0, 0)).2 ||| 2 ^ c)) else l.getD i (0, 0) := by
 unfold putW
 rw [List.getD_eq_getElem?_getD, List.getElem?_mapIdx, List.getD_eq_getElem?_getD]
 cases hx : l[i]? with
 | none =>
  have : l.length ≤ i := List.getElem?_eq_none_iff.1 hx
  rw [if_neg (by omega)]
  rfl
 | some w => rfl
theorem must_put {R : Ry} (hR : RyOk R) (c r i : Nat) (f : Int) (d : Nat) : (mustAt (putR R c r f) i).testBit d = ((mustAt R i).testBit d || (decide (i < R.y.ramps.length) && decide (i = r) && decide (c = d))) := by
 have hn := hR.y.n1
 have hw := hR.wl
 unfold mustAt putR
 simp only
 rw [putW_at _ _ _ _ _ (by omega)]
 by_cases h1 : i < R.y.ramps.length
 ·by_cases h2 : i = r
  ·rw [if_pos h1, if_pos h2, Nat.testBit_or, Nat.testBit_two_pow, decide_eq_true h1, decide_eq_true h2]; rfl
  ·rw [if_pos h1, if_neg h2, decide_eq_false h2]; simp
 ·rw [if_neg h1, decide_eq_false h1]; simp
theorem not_put {R : Ry} (hR : RyOk R) (c r i : Nat) (f : Int) (d : Nat) : (notAt (putR R c r f) i).testBit d = ((notAt R i).testBit d || (decide (i < R.y.ramps.length) && !decide (i = r) && decide (c = d))) := by
 have hn := hR.y.n1
 have hw := hR.wl
 unfold notAt putR
 simp only
 rw [putW_at _ _ _ _ _ (by omega)]
 by_cases h1 : i < R.y.ramps.length
 ·by_cases h2 : i = r
  ·rw [if_pos h1, if_pos h2, decide_eq_true h2]; simp
  ·rw [if_pos h1, if_neg h2, Nat.testBit_or, Nat.testBit_two_pow, decide_eq_true h1, decide_eq_false h2]; simp
 ·rw [if_neg h1, decide_eq_false h1]; simp
theorem frm_put {R : Ry} (hR : RyOk R) (c r : Nat) (f : Int) (hc : c < 7) (d : Nat) : frmAt (putR R c r f) d = if c = d then f else frmAt R d := by
 have hf := hR.fl
 unfold frmAt putR
 simp only
 rw [getD_set (by omega)]
theorem putW_bd {k c r : Nat} {l : List (Nat × Nat)} (hc : c < 7) (hk : k ≤ l.length) (h : ∀ i, (l.getD i (0, 0)).1 < 128 ∧ (l.getD i (0, 0)).2 < 128) (i : Nat) : ((putW k c r l).getD i (0, 0)).1 < 128 ∧ ((putW k c r l).getD i (0, 0)).2 < 128 := by
 have hp : 2 ^ c < 2 ^ 7 := Nat.pow_lt_pow_right (by decide) hc
 have hi := h i
 rw [putW_at _ _ _ _ _ hk]
 split
 ·split
  ·exact ⟨Nat.or_lt_two_pow (n := 7) hi.1 hp, hi.2⟩
  ·exact ⟨hi.1, Nat.or_lt_two_pow (n := 7) hi.2 hp⟩
 ·exact hi
theorem putR_ok {R : Ry} (hR : RyOk R) {c r : Nat} {f : Int} (hc : c < 7) (h0 : 0 ≤ f) (h1 : f ≤ 1000) : RyOk (putR R c r f) := by
 have hn := hR.y.n1
 have hw := hR.wl
 refine ⟨hR.y, by simp [putR, putW, hw], by simp [putR, hR.fl], fun i => putW_bd hc (by omega) hR.w i, fun d => ?_, hR.t0, hR.t1⟩
 rw [frm_put hR c r f hc]
 split
 ·exact ⟨h0, h1⟩
 ·exact hR.f d
def fixR (y : Ya) (last : Int) (b : List St) : Nat → Ry
 | 0 => { ry0 y with til := last }
 | c + 1 => putR (fixR y last b c) c (stAt b c).ramp.toNat (stAt b c).from_
theorem fixR_y (y : Ya) (last : Int) (b : List St) : ∀ c, (fixR y last b c).y = y
 | 0 => rfl
 | c + 1 => fixR_y y last b c
theorem fixR_til (y : Ya) (last : Int) (b : List St) : ∀ c, (fixR y last b c).til = last
 | 0 => rfl
 | c + 1 => fixR_til y last b c
theorem fixR_ok {y : Ya} {last : Int} {b : List St} (hy : YaV y) (hb : Fe y b) (h0 : 0 ≤ last) (h1 : last ≤ 480) : ∀ c, c ≤ y.carts.length → RyOk (fixR y last b c)
 | 0, _ => by
  have h := ry0_ok hy
  exact ⟨hy, h.wl, h.fl, h.w, h.f, h0, by show last ≤ 1000; omega⟩
 | c + 1, hc => by
  have hm := hy.m1
  have hbd := hb.bd hy (i := c) (by have := hb.len; omega)
  exact putR_ok (fixR_ok hy hb h0 h1 c (by omega)) (by omega) (by omega) (by omega)
theorem ry0_must (y : Ya) (last : Int) (i : Nat) : mustAt { ry0 y with til := last } i = 0 ∧ notAt { ry0 y with til := last } i = 0 := by
 have : (List.replicate 3 ((0 : Nat), (0 : Nat))).getD i (0, 0) = (0, 0) := by
  rw [List.getD_eq_getElem?_getD, List.getElem?_replicate]
  split <;> rfl
 unfold mustAt notAt ry0
 simp only [this]
 exact ⟨trivial, trivial⟩
theorem fixR_must {y : Ya} {last : Int} {b : List St} (hy : YaV y) (hb : Fe y b) (h0 : 0 ≤ last) (h1 : last ≤ 480) : ∀ c, c ≤ y.carts.length → ∀ i d, (mustAt (fixR y last b c) i).testBit d = (decide (d < c) && decide (i = (stAt b d).ramp.toNat))
 | 0, _, i, d => by
  show (mustAt { ry0 y with til := last } i).testBit d = _
  rw [(ry0_must y last i).1]; simp
 | c + 1, hc, i, d => by
  have hbd := hb.bd hy (i := c) (by have := hb.len; omega)
  rw [fixR, must_put (fixR_ok hy hb h0 h1 c (by omega)), fixR_must hy hb h0 h1 c (by omega), fixR_y]
  by_cases h : c = d
  ·subst h
   rw [decide_eq_false (Nat.lt_irrefl c), decide_eq_true (Nat.lt_succ_self c)]
   by_cases h2 : i = (stAt b c).ramp.toNat
   ·rw [decide_eq_true h2, decide_eq_true (show i < y.ramps.length by omega)]; simp
   ·rw [decide_eq_false h2]; simp
  ·rw [decide_eq_false h, Bool.and_false, Bool.or_false]
   congr 1
   by_cases h3 : d < c
   ·rw [decide_eq_true h3, decide_eq_true (by omega)]
   ·rw [decide_eq_false h3, decide_eq_false (by omega)]
theorem fixR_not {y : Ya} {last : Int} {b : List St} (hy : YaV y) (hb : Fe y b) (h0 : 0 ≤ last) (h1 : last ≤ 480) : ∀ c, c ≤ y.carts.length → ∀ i d, (notAt (fixR y last b c) i).testBit d = (decide (d < c) && decide (i < y.ramps.length) && !decide (i = (stAt b d).ramp.toNat))
 | 0, _, i, d => by
  show (notAt { ry0 y with til := last } i).testBit d = _
  rw [(ry0_must y last i).2]; simp
 | c + 1, hc, i, d => by
  rw [fixR, not_put (fixR_ok hy hb h0 h1 c (by omega)), fixR_not hy hb h0 h1 c (by omega), fixR_y]
  by_cases h : c = d
  ·subst h
   rw [decide_eq_false (Nat.lt_irrefl c), decide_eq_true (Nat.lt_succ_self c), decide_eq_true (rfl : c = c)]
   simp
  ·rw [decide_eq_false h, Bool.and_false, Bool.or_false]
   congr 2
   by_cases h3 : d < c
   ·rw [decide_eq_true h3, decide_eq_true (by omega)]
   ·rw [decide_eq_false h3, decide_eq_false (by omega)]
theorem fixR_frm {y : Ya} {last : Int} {b : List St} (hy : YaV y) (hb : Fe y b) (h0 : 0 ≤ last) (h1 : last ≤ 480) : ∀ c, c ≤ y.carts.length → ∀ d, d < c → frmAt (fixR y last b c) d = (stAt b d).from_
 | 0, _, d, hd => by omega
 | c + 1, hc, d, hd => by
  have hm := hy.m1
  rw [fixR, frm_put (fixR_ok hy hb h0 h1 c (by omega)) _ _ _ (by omega)]
  by_cases h : c = d
  ·rw [if_pos h, h]
  ·rw [if_neg h]
   exact fixR_frm hy hb h0 h1 c (by omega) d (by omega)
theorem soonest_tb {R : Ry} (hR : RyOk R) : TB (soonestL R) := by
 have key : ∀ k, k ≤ R.y.ramps.length → TB (allL R k) := by
  intro k
  induction k with
  | zero =>
   intro _ x hx
   unfold allL at hx
   rcases List.mem_cons.1 hx with rfl | hx
   ·decide
   ·rw [List.mem_replicate] at hx
    rw [hx.2]; decide
  | succ k ih =>
   intro hk
   have h1 := doneL_tb hR (r := k) (by omega)
   have h2 := ih (by omega)
   have hmin : ∀ s, 0 ≤ minP R k (doneL R k) (allL R k) s ∧ minP R k (doneL R k) (allL R k) s ≤ 1048576 := fun s => by
    unfold minP
    refine fold_inv (p := fun m : Int => 0 ≤ m ∧ m ≤ 1048576) (by decide) fun q _ m hm => ?_
    unfold partF
    split
    ·have a := h1.getD q
     have b := h2.getD (sdiff s q)
     omega
    ·exact hm
   unfold allL nextTo
   exact fold_inv (p := TB) (fun x hx => by rw [List.mem_replicate] at hx; omega) fun s _ t ht => ht.set (hmin s)
 exact key _ (Nat.le_refl _)
theorem last_bd {y : Ya} (hy : YaV y) {q : List St} (h : Fe y q) : lastV y q ≤ 480 := lastV_le.2 ⟨by decide, fun i hi _ => by have := h.bd hy hi; omega⟩
theorem full_lt (n : Nat) : 2 ^ n - 1 < 2 ^ n := by
 have : 1 ≤ 2 ^ n := Nat.one_le_two_pow
 omega
theorem first_last {y : Ya} (hy : YaV y) {b : List St} (h : servedR y = some b) : (soonestL (ry0 y)).getD (2 ^ y.carts.length - 1) 0 = lastV y b := by
 have hb := (servedR_best hy).1 b h
 have hR := ry0_ok hy
 have hl := last_bd hy hb
 have h0 := lastV_nn y b
 have hle : (soonestL (ry0 y)).getD (2 ^ y.carts.length - 1) 0 ≤ lastV y b := by
  refine (soonest_iff hR (full_lt _) h0 (by unfold never; omega)).2 ⟨slotsOf b, ?_⟩
  refine fe_ask hR hb (Int.le_refl _) (by show _ ≤ (480 : Int); exact hl) (fun i hi => ?_) (fun i hi hm => ?_) (fun i hi r hr hm => ?_)
  ·rw [show notAt (ry0 y) (stAt b i).ramp.toNat = 0 from (ry0_must y 480 _).2]; simp
  ·rw [show mustAt (ry0 y) (stAt b i).ramp.toNat = 0 from (ry0_must y 480 _).1] at hm; simp at hm
  ·rw [show mustAt (ry0 y) r = 0 from (ry0_must y 480 _).1] at hm; simp at hm
 have hge := ((soonest_tb hR).getD (2 ^ y.carts.length - 1)).1
 obtain ⟨p, hp⟩ := (soonest_iff hR (full_lt _) hge (by unfold never; omega)).1 (Int.le_refl _)
 obtain ⟨h1, h2⟩ := ask_fe hR hp hge
 obtain ⟨x, hx, hxl⟩ := (servedR_best hy).2 _ h1
 rw [h] at hx
 cases hx
 have h2' : lastV y (planOf (ry0 y).y.carts.length p) ≤ (soonestL (ry0 y)).getD (2 ^ y.carts.length - 1) 0 := h2
 rcases hxl with h3 | ⟨h3, _⟩
 ·have h3' : lastV y b < lastV y (planOf (ry0 y).y.carts.length p) := h3
  omega
 ·have h3' : lastV y b = lastV y (planOf (ry0 y).y.carts.length p) := h3
  omega
theorem first_never {y : Ya} (hy : YaV y) (h : servedR y = none) : never ≤ (soonestL (ry0 y)).getD (2 ^ y.carts.length - 1) 0 := by
 have hR := ry0_ok hy
 have hge := ((soonest_tb hR).getD (2 ^ y.carts.length - 1)).1
 rcases Int.lt_or_le ((soonestL (ry0 y)).getD (2 ^ y.carts.length - 1) 0) never with hlt | hle
 ·obtain ⟨p, hp⟩ := (soonest_iff hR (full_lt _) hge hlt).1 (Int.le_refl _)
  obtain ⟨h1, _⟩ := ask_fe hR hp hge
  obtain ⟨x, hx, _⟩ := (servedR_best hy).2 _ h1
  rw [h] at hx; cases hx
 ·exact hle
theorem put_hit {y : Ya} (hy : YaV y) {b : List St} (hb : Fe y b) {last : Int} (hl0 : 0 ≤ last) (hl1 : last ≤ 480) {c r : Nat} {f : Int} (hc : c < y.carts.length) (hr : r < y.ramps.length) (hf0 : 0 ≤ f) (hf1 : f ≤ 1000)
  (h : (soonestL (putR (fixR y last b c) c r f)).getD (2 ^ y.carts.length - 1) 0 ≤ last) : ∃ q, Fe y q ∧ lastV y q ≤ last ∧ (∀ d, d < c → stAt q d = stAt b d) ∧ stAt q c = ⟨r, f⟩ := by
 have hm := hy.m1
 have hfo := fixR_ok hy hb hl0 hl1 c (by omega)
 have hR := putR_ok (r := r) hfo (show c < 7 by omega) hf0 hf1
 have hRy : (putR (fixR y last b c) c r f).y = y := fixR_y y last b c
 obtain ⟨p, hp⟩ := (soonest_iff hR (s := 2 ^ y.carts.length - 1) (by rw [hRy]; exact full_lt _) hl0 (by unfold never; omega)).1 h
 have hp2 : AsK (putR (fixR y last b c) c r f) (putR (fixR y last b c) c r f).y.ramps.length (2 ^ (putR (fixR y last b c) c r f).y.carts.length - 1) last p := by rw [hRy] at hp ⊢; exact hp
 obtain ⟨h1, h2⟩ := ask_fe hR hp2 hl0
 rw [hRy] at h1 h2
 have hbit : ∀ d, d < y.carts.length → (2 ^ y.carts.length - 1).testBit d = true := fun d hd => full_bit.2 hd
 have hramp : ∀ d, d < y.carts.length → (p d).1 < y.ramps.length ∧ (notAt (putR (fixR y last b c) c r f) (p d).1).testBit d = false := fun d hd => by
  have a := hp.rk d (hbit d hd)
  rw [hRy] at a
  have m := hp.may d (hbit d hd)
  unfold mayB at m
  simp only [Bool.and_eq_true, Bool.not_eq_true'] at m
  exact ⟨a, m.2⟩
 refine ⟨_, h1, h2, fun d hd => ?_, ?_⟩
 ·have hdn : d < y.carts.length := by omega
  have hbd := hb.bd hy (i := d) (by have := hb.len; omega)
  obtain ⟨a1, a2⟩ := hramp d hdn
  rw [not_put hfo, fixR_not hy hb hl0 hl1 c (by omega), fixR_y, decide_eq_true hd, decide_eq_true a1, decide_eq_false (show ¬ c = d by omega)] at a2
  simp only [Bool.true_and, Bool.and_false, Bool.or_false, Bool.not_eq_false', decide_eq_true_eq] at a2
  have hmu := hp.mu d (hbit d hdn) (by
   rw [must_put hfo, fixR_must hy hb hl0 hl1 c (by omega), decide_eq_true hd, decide_eq_true a2]; rfl)
  rw [frm_put hfo c r f (by omega), if_neg (by omega), fixR_frm hy hb hl0 hl1 c (by omega) d hd] at hmu
  rw [planOf_at hdn, a2, hmu]
  have : (((stAt b d).ramp.toNat : Nat) : Int) = (stAt b d).ramp := by omega
  rw [this]
 ·obtain ⟨a1, a2⟩ := hramp c hc
  rw [not_put hfo, fixR_y, decide_eq_true a1, decide_eq_true (rfl : c = c)] at a2
  simp only [Bool.true_and, Bool.and_true, Bool.or_eq_false_iff, Bool.not_eq_false', decide_eq_true_eq] at a2
  have hmu := hp.mu c (hbit c hc) (by
   rw [must_put hfo, fixR_y, decide_eq_true a1, decide_eq_true a2.2, decide_eq_true (rfl : c = c)]; simp)
  rw [frm_put hfo c r f (by omega), if_pos rfl] at hmu
  rw [planOf_at hc, a2.2, hmu]
theorem before_at : ∀ {q b : List St} {c : Nat}, c < q.length → c < b.length → (∀ d, d < c → stAt q d = stAt b d) → sltB (stAt q c) (stAt b c) = true → beforeB q b = true
 | x :: q, z :: b, 0, _, _, _, h => by
  have h' : sltB x z = true := h
  rw [beforeB]
  by_cases e : x = z
  ·subst e; rw [slt_irr] at h'; cases h'
  ·rw [if_neg e]; exact h'
 | x :: q, z :: b, c + 1, h1, h2, h3, h => by
  have h0 : x = z := h3 0 (by omega)
  rw [beforeB, if_pos h0]
  exact before_at (by simpa using h1) (by simpa using h2) (fun d hd => h3 (d + 1) (by omega)) h
theorem put_miss {y : Ya} (hy : YaV y) {b : List St} (hs : servedR y = some b) {c r : Nat} {f : Int} (hc : c < y.carts.length) (hr : r < y.ramps.length) (hf0 : 0 ≤ f) (hf1 : f ≤ 1000) (hlt : sltB ⟨r, f⟩ (stAt b c) = true) :
  ¬ (soonestL (putR (fixR y (lastV y b) b c) c r f)).getD (2 ^ y.carts.length - 1) 0 ≤ lastV y b := by
 intro h
 have hb := (servedR_best hy).1 b hs
 obtain ⟨q, h1, h2, h3, h4⟩ := put_hit hy hb (lastV_nn y b) (last_bd hy hb) hc hr hf0 hf1 h
 obtain ⟨x, hx, hxl⟩ := (servedR_best hy).2 q h1
 rw [hs] at hx
 cases hx
 rcases hxl with h5 | ⟨h5, h6⟩
 ·omega
 ·rw [before_at (by rw [h1.len]; exact hc) (by rw [hb.len]; exact hc) h3 (by rw [h4]; exact hlt)] at h6
  cases h6
theorem put_own {y : Ya} (hy : YaV y) {b : List St} (hs : servedR y = some b) {c : Nat} (hc : c < y.carts.length) :
  mayB (fixR y (lastV y b) b (c + 1)) c (stAt b c).ramp.toNat = true ∧ (soonestL (fixR y (lastV y b) b (c + 1))).getD (2 ^ y.carts.length - 1) 0 ≤ lastV y b := by
 have hb := (servedR_best hy).1 b hs
 have hl := hb.len
 have h0 := lastV_nn y b
 have h1 := last_bd hy hb
 have hR := fixR_ok hy hb h0 h1 (c + 1) (by omega)
 have hRy := fixR_y y (lastV y b) b (c + 1)
 have hRt := fixR_til y (lastV y b) b (c + 1)
 have hbd : ∀ i, i < b.length → 0 ≤ (stAt b i).ramp ∧ (stAt b i).ramp < y.ramps.length := fun i hi => by
  have := hb.bd hy hi
  omega
 have hno : ∀ i, i < b.length → (notAt (fixR y (lastV y b) b (c + 1)) (stAt b i).ramp.toNat).testBit i = false := fun i hi => by
  rw [fixR_not hy hb h0 h1 (c + 1) (by omega)]; simp
 constructor
 ·unfold mayB rAt
  rw [hno c (by omega), hRy]
  have hbc := hbd c (by omega)
  have e : (((stAt b c).ramp.toNat : Nat) : Int) = (stAt b c).ramp := by omega
  rw [e]
  simp only [Bool.and_eq_true, decide_eq_true_eq]
  exact ⟨⟨hb.r c (by omega), hb.br c (by omega)⟩, rfl⟩
 ·refine (soonest_iff hR (by rw [hRy]; exact full_lt _) h0 (by unfold never; omega)).2 ⟨slotsOf b, ?_⟩
  have := fe_ask hR (V := lastV y b) (q := b) (by rw [hRy]; exact hb) (by rw [hRy]; exact Int.le_refl _) (by rw [hRy, hRt]; exact Int.le_refl _) hno (fun i hi hm => ?_) (fun i hi r hr hm => ?_)
  ·rw [hRy] at this ⊢; exact this
  ·rw [fixR_must hy hb h0 h1 (c + 1) (by omega)] at hm
   simp only [Bool.and_eq_true, decide_eq_true_eq] at hm
   exact (fixR_frm hy hb h0 h1 (c + 1) (by omega) i hm.1).symm
  ·rw [fixR_must hy hb h0 h1 (c + 1) (by omega)] at hm
   simp only [Bool.and_eq_true, decide_eq_true_eq] at hm
   exact hm.2.symm
end Go.Proofs.YtkipednlefbfpaaDoor

/- Choices of carts, on values. (Vm) -/
namespace Go.Proofs.YtkipednlefbfpaaDoor.Vm
open Go Go.Proofs
theorem own_retC {f : Nat} {fn : Func} {M : Mem} {L : List VObj} {Y : List (Nat × Nat)} {e : Env} {ex : Exit} {a t : Nat} {X Z : VV} (hex : ex = .normal ∨ ex = .ret) (hY : ∀ x ∈ Y, M.H.length ≤ x.1) (h1 : fn.results.toList = [.cell a t]) (hr : vload T t (get e a) ⟨M.H ++ L, M.lg ++ Y⟩ = some Z) (hZ : frz M.H.length (M.H ++ L) Z = X) (h2 : refs X = []) : ownQ T f fn M (fun r M' => M' = M ∧ r = X) ex e ⟨M.H ++ L, M.lg ++ Y⟩ [] :=
 ⟨hex, rfl, ⟨Y, rfl, hY⟩, M.H, L, rfl, rfl, [Z], by rw [h1]; simp [vresL, hr], X, hZ, by simp [h2], rfl, rfl⟩
end Go.Proofs.YtkipednlefbfpaaDoor.Vm
