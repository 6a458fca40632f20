/- A part of the proofs about the chapter of the doors; it states no condition of its own. -/
import Derived.Test.YtmagiabapakhcaaB24
import Derived.Test.YtmagiabapakhcaaB31
import Derived.Test.YtmagiabapakhcaaB40
import Derived.Test.YtmagiabapakhcaaB45
set_option linter.unusedVariables false
set_option linter.unusedSimpArgs false
/- The reference's network of portions, plain. -/
namespace Go.Proofs.Ytmagiabapakhcaa
def srvOf (k : Kn) (l : List Int) : List (List Int) := (List.range k.meals.length).map fun m => (List.range k.gifts.length).map fun g => l.getD (m * k.gifts.length + g) 0
theorem srvOf_at {k : Kn} (l : List Int) {m g : Nat} (hm : m < k.meals.length) (hg : g < k.gifts.length) : at2 (srvOf k l) m g = l.getD (m * k.gifts.length + g) 0 := by
 have e : (srvOf k l)[m]? = some ((List.range k.gifts.length).map fun g => l.getD (m * k.gifts.length + g) 0) := by
  unfold srvOf
  rw [List.getElem?_map, List.getElem?_range hm]; rfl
 rw [at2, List.getD_eq_getElem?_getD (l := srvOf k l), e, Option.getD_some, List.getD_eq_getElem?_getD, List.getElem?_map, List.getElem?_range hg]; rfl
theorem srvOf_out {k : Kn} (l : List Int) {m g : Nat} (h : k.meals.length ≤ m ∨ k.gifts.length ≤ g) : at2 (srvOf k l) m g = 0 := by
 unfold at2
 rcases Nat.lt_or_ge m k.meals.length with hm | hm
 ·have e : (srvOf k l)[m]? = some ((List.range k.gifts.length).map fun g => l.getD (m * k.gifts.length + g) 0) := by
   unfold srvOf
   rw [List.getElem?_map, List.getElem?_range hm]; rfl
  rw [List.getD_eq_getElem?_getD (l := srvOf k l), e, Option.getD_some, List.getD_eq_getElem?_getD, List.getElem?_eq_none (by simp; omega)]; rfl
 ·rw [List.getD_eq_getElem?_getD (l := srvOf k l), List.getElem?_eq_none (by simp [srvOf]; omega)]; rfl
theorem getD_bd {l : List Int} {a b : Int} (ha : a ≤ 0) (hb : 0 ≤ b) (h : ∀ x ∈ l, a ≤ x ∧ x ≤ b) (i : Nat) : a ≤ l.getD i 0 ∧ l.getD i 0 ≤ b := by
 rw [List.getD_eq_getElem?_getD]
 rcases Nat.lt_or_ge i l.length with q | q
 ·rw [List.getElem?_eq_getElem q]
  exact h _ (List.getElem_mem q)
 ·rw [List.getElem?_eq_none q]
  exact ⟨ha, hb⟩
theorem srvOf_srv {k : Kn} {l : List Int} (h : ∀ x ∈ l, 0 ≤ x ∧ x ≤ 10000) : Srv k (srvOf k l) := by
 have key : ∀ m g, 0 ≤ at2 (srvOf k l) m g ∧ at2 (srvOf k l) m g ≤ 10000 := fun m g => by
  rcases Nat.lt_or_ge m k.meals.length with hm | hm
  ·rcases Nat.lt_or_ge g k.gifts.length with hg | hg
   ·rw [srvOf_at l hm hg]; exact getD_bd (Int.le_refl _) (by omega) h _
   ·rw [srvOf_out l (.inr hg)]; omega
  ·rw [srvOf_out l (.inl hm)]; omega
 exact ⟨by simp [srvOf], fun r hr => by
  obtain ⟨m, _, rfl⟩ := List.mem_map.1 hr
  simp, fun m g => (key m g).1, fun m g => (key m g).2⟩
theorem sumTo_mul (n m : Nat) (f : Nat → Int) : sumTo (n * m) f = sumTo n fun i => sumTo m fun j => f (i * m + j) := by
 induction n with
 | zero => rw [Nat.zero_mul]; rfl
 | succ n ih => rw [Nat.add_mul, Nat.one_mul, sumTo_split, ih, sumTo_succ]
def goneL (l : List Int) (nG g i : Nat) : Int := sumTo i fun j => if j % nG = g then l.getD j 0 else 0
def eatL (l : List Int) (nG m i : Nat) : Int := sumTo i fun j => if j / nG = m then l.getD j 0 else 0
theorem goneL_all {k : Kn} (l : List Int) {g : Nat} (hg : g < k.gifts.length) : goneL l k.gifts.length g (k.meals.length * k.gifts.length) = goneT (srvOf k l) g k.meals.length := by
 unfold goneL goneT
 rw [sumTo_mul]
 refine sumTo_congr fun m hm => ?_
 rw [srvOf_at l hm hg]
 refine sumTo_at hg fun j hj => ?_
 rw [Nat.mul_comm m, Nat.mul_add_mod, Nat.mod_eq_of_lt hj]
 by_cases e : j = g
 ·subst e; simp
 ·rw [if_neg e, if_neg e]
theorem eatL_all {k : Kn} (l : List Int) {m : Nat} (hm : m < k.meals.length) : eatL l k.gifts.length m (k.meals.length * k.gifts.length) = eatenT (srvOf k l) m k.gifts.length := by
 unfold eatL eatenT
 rw [sumTo_mul]
 refine sumTo_at hm fun a ha => ?_
 by_cases e : a = m
 ·subst e
  rw [if_pos rfl]
  refine sumTo_congr fun g hg => ?_
  rw [srvOf_at l hm hg, Nat.mul_comm a, Nat.mul_add_div (by omega), Nat.div_eq_of_lt hg, if_pos (by omega)]
 ·rw [if_neg e]
  refine sumTo_zero' fun g hg => ?_
  rw [Nat.mul_comm a, Nat.mul_add_div (by omega), Nat.div_eq_of_lt hg, if_neg (by omega)]
theorem goneL_succ (l : List Int) (nG g i : Nat) : goneL l nG g (i + 1) = goneL l nG g i + if i % nG = g then l.getD i 0 else 0 := sumTo_succ _ _
theorem eatL_succ (l : List Int) (nG m i : Nat) : eatL l nG m (i + 1) = eatL l nG m i + if i / nG = m then l.getD i 0 else 0 := sumTo_succ _ _
theorem goneL_bd {l : List Int} (h : ∀ x ∈ l, 0 ≤ x ∧ x ≤ 10000) (nG g i : Nat) : 0 ≤ goneL l nG g i ∧ goneL l nG g i ≤ (i : Int) * 10000 := by
 have := sumTo_bd (n := i) (f := fun j => if j % nG = g then l.getD j 0 else 0) (a := 0) (b := 10000) fun j _ => by
  have := getD_bd (Int.le_refl _) (by omega) h j
  split <;> omega
 simpa [goneL] using this
theorem eatL_bd {l : List Int} (h : ∀ x ∈ l, 0 ≤ x ∧ x ≤ 10000) (nG m i : Nat) : 0 ≤ eatL l nG m i ∧ eatL l nG m i ≤ (i : Int) * 10000 := by
 have := sumTo_bd (n := i) (f := fun j => if j / nG = m then l.getD j 0 else 0) (a := 0) (b := 10000) fun j _ => by
  have := getD_bd (Int.le_refl _) (by omega) h j
  split <;> omega
 simpa [eatL] using this
def refF (k : Kn) (l : List Int) (i a b : Nat) : Int :=
 if a = 0 then (if 1 ≤ b ∧ b < 1 + k.gifts.length then (giAt k (b - 1)).portions - goneL l k.gifts.length (b - 1) i else 0)
 else if b = k.gifts.length + k.meals.length + 1 then (if 1 + k.gifts.length ≤ a ∧ a < 1 + k.gifts.length + k.meals.length then mealAt k (a - 1 - k.gifts.length) - eatL l k.gifts.length (a - 1 - k.gifts.length) i else 0)
 else if a < 1 + k.gifts.length ∧ 1 + k.gifts.length ≤ b ∧ b < 1 + k.gifts.length + k.meals.length then (if (b - 1 - k.gifts.length) * k.gifts.length + (a - 1) < i ∧ l.length ≤ (b - 1 - k.gifts.length) * k.gifts.length + (a - 1) ∧ inP k (b - 1 - k.gifts.length) (a - 1) = true then 10000 else 0)
 else 0
structure Feas (k : Kn) (l : List Int) : Prop where
 len : l.length ≤ k.meals.length * k.gifts.length
 bd : ∀ x ∈ l, 0 ≤ x ∧ x ≤ 10000
 fits : Fits k (srvOf k l)
theorem ref_bip {k : Kn} {l : List Int} {R : List (List Int)} (hF : ∀ a b, a < k.gifts.length + k.meals.length + 2 → b < k.gifts.length + k.meals.length + 2 → at2 R a b = refF k l (k.meals.length * k.gifts.length) a b) : BipC k.gifts.length k.meals.length (permG (nameB (2 + k.gifts.length + k.meals.length)) (2 + k.gifts.length + k.meals.length) R) (fun g => (giAt k g).portions - goneT (srvOf k l) g k.meals.length) (fun m => mealAt k m - eatenT (srvOf k l) m k.gifts.length) (fun m g => if l.length ≤ m * k.gifts.length + g ∧ inP k m g = true then 10000 else 0) := by
 have hN : 2 ≤ 2 + k.gifts.length + k.meals.length := by omega
 have B := nameG_bij hN
 have hat : ∀ i j, i < 2 + k.gifts.length + k.meals.length → j < 2 + k.gifts.length + k.meals.length → at2 (permG (nameB (2 + k.gifts.length + k.meals.length)) (2 + k.gifts.length + k.meals.length) R) i j = refF k l (k.meals.length * k.gifts.length) (nameB (2 + k.gifts.length + k.meals.length) i) (nameB (2 + k.gifts.length + k.meals.length) j) := fun i j hi hj => by
  rw [permG_at _ hi hj]
  have h1 := B.lt' i hi
  have h2 := B.lt' j hj
  exact hF _ _ (by omega) (by omega)
 have n0 : nameB (2 + k.gifts.length + k.meals.length) 0 = 0 := rfl
 have n1 : nameB (2 + k.gifts.length + k.meals.length) 1 = k.gifts.length + k.meals.length + 1 := by unfold nameB; rw [if_neg (by omega), if_pos rfl]; omega
 have ng : ∀ g, nameB (2 + k.gifts.length + k.meals.length) (2 + g) = 1 + g := fun g => by unfold nameB; rw [if_neg (by omega), if_neg (by omega)]; omega
 have nm : ∀ m, nameB (2 + k.gifts.length + k.meals.length) (2 + k.gifts.length + m) = 1 + k.gifts.length + m := fun m => by unfold nameB; rw [if_neg (by omega), if_neg (by omega)]; omega
 refine ⟨fun g hg => ?_, fun g m hg hm => ?_, fun m hm => ?_, ?_, ?_, ?_, ?_, fun m hm => ?_, fun g hg => ?_, fun m hm => ?_, fun g hg => ?_, fun g hg => ?_, fun g h hg hh => ?_, fun m hm => ?_, fun m g hm hg => ?_, fun m n hm hn => ?_⟩
 ·rw [hat _ _ (by omega) (by omega), n0, ng]
  unfold refF
  rw [if_pos rfl, if_pos (by omega), show 1 + g - 1 = g by omega, goneL_all l hg]
 ·rw [hat _ _ (by omega) (by omega), ng, nm]
  unfold refF
  rw [if_neg (by omega), if_neg (by omega), if_pos (by omega), show 1 + k.gifts.length + m - 1 - k.gifts.length = m by omega, show 1 + g - 1 = g by omega]
  have hlt : m * k.gifts.length + g < k.meals.length * k.gifts.length := by
   have := Nat.mul_le_mul_right k.gifts.length (show m + 1 ≤ k.meals.length by omega)
   rw [Nat.add_mul, Nat.one_mul] at this
   omega
  by_cases h : l.length ≤ m * k.gifts.length + g ∧ inP k m g = true
  ·rw [if_pos ⟨hlt, h⟩, if_pos h]
  ·rw [if_neg (fun q => h q.2), if_neg h]
 ·rw [hat _ _ (by omega) (by omega), n1, nm]
  unfold refF
  rw [if_neg (by omega), if_pos rfl, if_pos (by omega), show 1 + k.gifts.length + m - 1 - k.gifts.length = m by omega, eatL_all l hm]
 ·rw [hat _ _ (by omega) (by omega), n0]; unfold refF; rw [if_pos rfl, if_neg (by omega)]
 ·rw [hat _ _ (by omega) (by omega), n0, n1]; unfold refF; rw [if_pos rfl, if_neg (by omega)]
 ·rw [hat _ _ (by omega) (by omega), n0, n1]; unfold refF; rw [if_neg (by omega), if_neg (by omega), if_neg (by omega)]
 ·rw [hat _ _ (by omega) (by omega), n1]; unfold refF; rw [if_neg (by omega), if_pos rfl, if_neg (by omega)]
 ·rw [hat _ _ (by omega) (by omega), n0, nm]; unfold refF; rw [if_pos rfl, if_neg (by omega)]
 ·rw [hat _ _ (by omega) (by omega), n1, ng]; unfold refF; rw [if_neg (by omega), if_neg (by omega), if_neg (by omega)]
 ·rw [hat _ _ (by omega) (by omega), n1, nm]; unfold refF; rw [if_neg (by omega), if_neg (by omega), if_neg (by omega)]
 ·rw [hat _ _ (by omega) (by omega), n0, ng]; unfold refF; rw [if_neg (by omega), if_neg (by omega), if_neg (by omega)]
 ·rw [hat _ _ (by omega) (by omega), n1, ng]; unfold refF; rw [if_neg (by omega), if_pos rfl, if_neg (by omega)]
 ·rw [hat _ _ (by omega) (by omega), ng, ng]; unfold refF; rw [if_neg (by omega), if_neg (by omega), if_neg (by omega)]
 ·rw [hat _ _ (by omega) (by omega), n0, nm]; unfold refF; rw [if_neg (by omega), if_neg (by omega), if_neg (by omega)]
 ·rw [hat _ _ (by omega) (by omega), ng, nm]; unfold refF; rw [if_neg (by omega), if_neg (by omega), if_neg (by omega)]
 ·rw [hat _ _ (by omega) (by omega), nm, nm]; unfold refF; rw [if_neg (by omega), if_neg (by omega), if_neg (by omega)]
theorem ref_E {k : Kn} (V : KV k) {l : List Int} (hl : Feas k l) {R : List (List Int)} (hs : Sq (k.gifts.length + k.meals.length + 2) R) (hF : ∀ a b, a < k.gifts.length + k.meals.length + 2 → b < k.gifts.length + k.meals.length + 2 → at2 R a b = refF k l (k.meals.length * k.gifts.length) a b) : MostE k (srvOf k l) l.length (mfv (k.gifts.length + k.meals.length + 2) (permT (k.gifts.length + k.meals.length + 2) R)) ∧ ∀ a b, a < k.gifts.length + k.meals.length + 2 → b < k.gifts.length + k.meals.length + 2 → 0 ≤ at2 R a b ∧ at2 R a b ≤ 10000 := by
 have hN2 : 2 ≤ 2 + k.gifts.length + k.meals.length := by omega
 have eN : k.gifts.length + k.meals.length + 2 = 2 + k.gifts.length + k.meals.length := by omega
 have H := srvOf_srv (k := k) hl.bd
 have hb := ref_bip hF
 have nn : ∀ a b, a < k.gifts.length + k.meals.length + 2 → b < k.gifts.length + k.meals.length + 2 → 0 ≤ at2 R a b ∧ at2 R a b ≤ 10000 := fun a b ha hb => by
  rw [hF a b ha hb]
  unfold refF
  split
  ·split
   ·rename_i h2
    have h3 := hl.fits.1 (b - 1) (by omega)
    have h4 := (giAt_V V (g := b - 1) (by omega)).p1
    have h5 := (H.gone (b - 1) k.meals.length).1
    rw [goneL_all l (by omega)]
    omega
   ·omega
  ·split
   ·split
    ·rename_i h2
     have h3 := hl.fits.2 (a - 1 - k.gifts.length) (by omega)
     have h4 := (mealAt_V V (m := a - 1 - k.gifts.length) (by omega)).2
     have h5 := (H.eaten (a - 1 - k.gifts.length) k.gifts.length).1
     rw [eatL_all l (by omega)]
     omega
    ·omega
   ·split
    ·split <;> omega
    ·omega
 refine ⟨?_, nn⟩
 have B := nameG_bij hN2
 rw [eN] at hs nn ⊢
 generalize hN : 2 + k.gifts.length + k.meals.length = N at hs nn B hb hN2 ⊢
 have hm := mfv_MF hN2 (permG_sq (nameB N) N R) fun i j hi hj => by
  rw [permG_at _ hi hj]
  exact (nn _ _ (B.lt' i hi) (B.lt' j hj)).1
 have hm2 := hm.perm hN2 ((tau_bij hN2).comp B) (by show nameG N (tau N 0) = 0; rw [tau_0 hN2]; rfl) (by show nameG N (tau N 1) = 1; rw [show tau N 1 = N - 1 by unfold tau; rw [if_pos rfl], nameG_last hN2])
 have e : permG (fun i => nameG N (tau N i)) N (permG (nameB N) N R) = permT N R := by
  refine sq_ext (permG_sq _ N _) (permT_sq N R) fun i j hi hj => ?_
  rw [permT_at _ hi hj, permG_at _ hi hj, permG_at _ (B.lt _ (tau_lt hN2 hi)) (B.lt _ (tau_lt hN2 hj)), B.qp _ (tau_lt hN2 hi), B.qp _ (tau_lt hN2 hj)]
 rw [e] at hm2
 rw [mfv_eq hN2 hm2]
 rw [← hN] at hm
 rw [← hN] at hb
 obtain ⟨⟨T, hT, e⟩, h2⟩ := bip_MF hb hm
 rw [hN] at e h2
 have iff := fun T => tok_ext (T := T) V H (p := l.length) (r := fun m g => if l.length ≤ m * k.gifts.length + g ∧ inP k m g = true then 10000 else 0) (fun m g hm hg => by
  by_cases h1 : m * k.gifts.length + g < l.length
  ·rw [if_neg (by omega), if_pos (.inl h1)]
  ·cases h3 : inP k m g <;> simp [h1]) fun m g hm hg ho => by
  simp only [not_or, Bool.not_eq_false] at ho
  rw [if_pos ⟨by omega, ho.2⟩]
  omega
 exact ⟨⟨T, (iff T).1 hT, e⟩, fun T' hT' => h2 T' ((iff T').2 hT')⟩
end Go.Proofs.Ytmagiabapakhcaa

/- The reference: how many portions can be eaten, on values. (Vm) -/
namespace Go.Proofs.Ytmagiabapakhcaa
def eatF1 (k : Kn) (i a b : Nat) : Int := if a = 0 ∧ 1 ≤ b ∧ b < 1 + i then (giAt k (b - 1)).portions else 0
def eatF2 (k : Kn) (i a b : Nat) : Int := eatF1 k k.gifts.length a b + if b = k.gifts.length + k.meals.length + 1 ∧ 1 + k.gifts.length ≤ a ∧ a < 1 + k.gifts.length + i then mealAt k (a - 1 - k.gifts.length) else 0
theorem eatF1_succ (k : Kn) (i a b : Nat) : eatF1 k (i + 1) a b = if 0 = a ∧ 1 + i = b then (giAt k i).portions else eatF1 k i a b := by
 unfold eatF1
 by_cases h : 0 = a ∧ 1 + i = b
 ·rw [if_pos h, if_pos (by omega), show b - 1 = i by omega]
 ·rw [if_neg h]
  by_cases h2 : a = 0 ∧ 1 ≤ b ∧ b < 1 + i
  ·rw [if_pos h2, if_pos (by omega)]
  ·rw [if_neg h2, if_neg (by omega)]
theorem eatF2_succ (k : Kn) {i : Nat} (a b : Nat) : eatF2 k (i + 1) a b = if 1 + k.gifts.length + i = a ∧ k.gifts.length + k.meals.length + 1 = b then mealAt k i else eatF2 k i a b := by
 unfold eatF2
 by_cases h : 1 + k.gifts.length + i = a ∧ k.gifts.length + k.meals.length + 1 = b
 ·rw [if_pos h, if_pos (by omega), show a - 1 - k.gifts.length = i by omega]
  unfold eatF1
  rw [if_neg (by omega), Int.zero_add]
 ·rw [if_neg h]
  by_cases h2 : b = k.gifts.length + k.meals.length + 1 ∧ 1 + k.gifts.length ≤ a ∧ a < 1 + k.gifts.length + i
  ·rw [if_pos h2, if_pos (by omega)]
  ·rw [if_neg h2, if_neg (by omega)]
theorem eatF2_zero (k : Kn) (a b : Nat) : eatF2 k 0 a b = eatF1 k k.gifts.length a b := by
 unfold eatF2; rw [if_neg (by omega), Int.add_zero]
theorem refF_zero (k : Kn) (l : List Int) (a b : Nat) : refF k l 0 a b = eatF2 k k.meals.length a b := by
 have g0 : ∀ g, goneL l k.gifts.length g 0 = 0 := fun _ => rfl
 have e0 : ∀ m, eatL l k.gifts.length m 0 = 0 := fun _ => rfl
 unfold refF eatF2 eatF1
 by_cases h0 : a = 0
 ·rw [if_pos h0, if_neg (show ¬ (b = _ ∧ _) by omega), Int.add_zero]
  by_cases h1 : 1 ≤ b ∧ b < 1 + k.gifts.length
  ·rw [if_pos h1, if_pos ⟨h0, h1⟩, g0]; omega
  ·rw [if_neg h1, if_neg (fun q => h1 q.2)]
 ·rw [if_neg h0, if_neg (show ¬ (a = 0 ∧ _) from fun q => h0 q.1), Int.zero_add]
  by_cases h1 : b = k.gifts.length + k.meals.length + 1
  ·rw [if_pos h1]
   by_cases h2 : 1 + k.gifts.length ≤ a ∧ a < 1 + k.gifts.length + k.meals.length
   ·rw [if_pos h2, if_pos ⟨h1, h2⟩, e0]; omega
   ·rw [if_neg h2, if_neg (fun q => h2 q.2)]
  ·rw [if_neg h1, if_neg (show ¬ (b = _ ∧ _) from fun q => h1 q.1)]
   split
   ·rw [if_neg (by omega)]
   ·rfl
section
variable (k : Kn) (l : List Int) (i : Nat)
theorem refF_g {g : Nat} (hg : g < k.gifts.length) : refF k l i 0 (1 + g) = (giAt k g).portions - goneL l k.gifts.length g i := by
 unfold refF
 rw [if_pos rfl, if_pos (show 1 ≤ 1 + g ∧ 1 + g < 1 + k.gifts.length by omega), show 1 + g - 1 = g by omega]
theorem refF_m {m : Nat} (hm : m < k.meals.length) : refF k l i (1 + k.gifts.length + m) (k.gifts.length + k.meals.length + 1) = mealAt k m - eatL l k.gifts.length m i := by
 unfold refF
 rw [if_neg (show ¬ 1 + k.gifts.length + m = 0 by omega), if_pos rfl, if_pos (show 1 + k.gifts.length ≤ 1 + k.gifts.length + m ∧ 1 + k.gifts.length + m < 1 + k.gifts.length + k.meals.length by omega), show 1 + k.gifts.length + m - 1 - k.gifts.length = m by omega]
theorem refF_gm {g m : Nat} (hg : g < k.gifts.length) (hm : m < k.meals.length) : refF k l i (1 + g) (1 + k.gifts.length + m) = if m * k.gifts.length + g < i ∧ l.length ≤ m * k.gifts.length + g ∧ inP k m g = true then 10000 else 0 := by
 unfold refF
 rw [if_neg (show ¬ 1 + g = 0 by omega), if_neg (show ¬ 1 + k.gifts.length + m = k.gifts.length + k.meals.length + 1 by omega), if_pos (show 1 + g < 1 + k.gifts.length ∧ 1 + k.gifts.length ≤ 1 + k.gifts.length + m ∧ 1 + k.gifts.length + m < 1 + k.gifts.length + k.meals.length by omega), show 1 + k.gifts.length + m - 1 - k.gifts.length = m by omega, show 1 + g - 1 = g by omega]
theorem ref_cases (a b : Nat) : (∃ g, g < k.gifts.length ∧ a = 0 ∧ b = 1 + g) ∨ (∃ m, m < k.meals.length ∧ a = 1 + k.gifts.length + m ∧ b = k.gifts.length + k.meals.length + 1) ∨ (∃ g m, g < k.gifts.length ∧ m < k.meals.length ∧ a = 1 + g ∧ b = 1 + k.gifts.length + m) ∨ ((∀ i, refF k l i a b = 0) ∧ (∀ g, g < k.gifts.length → ¬ (0 = a ∧ 1 + g = b)) ∧ (∀ m, m < k.meals.length → ¬ (1 + k.gifts.length + m = a ∧ k.gifts.length + k.meals.length + 1 = b)) ∧ ∀ g m, g < k.gifts.length → m < k.meals.length → ¬ (1 + g = a ∧ 1 + k.gifts.length + m = b)) := by
 by_cases h1 : a = 0 ∧ 1 ≤ b ∧ b < 1 + k.gifts.length
 ·exact .inl ⟨b - 1, by omega, h1.1, by omega⟩
 by_cases h2 : b = k.gifts.length + k.meals.length + 1 ∧ 1 + k.gifts.length ≤ a ∧ a < 1 + k.gifts.length + k.meals.length
 ·exact .inr (.inl ⟨a - (1 + k.gifts.length), by omega, by omega, h2.1⟩)
 by_cases h3 : 1 ≤ a ∧ a < 1 + k.gifts.length ∧ 1 + k.gifts.length ≤ b ∧ b < 1 + k.gifts.length + k.meals.length
 ·exact .inr (.inr (.inl ⟨a - 1, b - (1 + k.gifts.length), by omega, by omega, by omega, by omega⟩))
 refine .inr (.inr (.inr ⟨fun i => ?_, fun g hg => by omega, fun m hm => by omega, fun g m hg hm => by omega⟩))
 unfold refF
 by_cases h0 : a = 0
 ·rw [if_pos h0, if_neg (fun q => h1 ⟨h0, q⟩)]
 ·rw [if_neg h0]
  by_cases hb : b = k.gifts.length + k.meals.length + 1
  ·rw [if_pos hb, if_neg (fun q => h2 ⟨hb, q⟩)]
  ·rw [if_neg hb, if_neg (fun q => h3 ⟨by omega, q⟩)]
end
theorem refF_given (k : Kn) (l : List Int) {i m g : Nat} (hg : g < k.gifts.length) (hm : m < k.meals.length) (hi : i = m * k.gifts.length + g) (hlt : i < l.length) (a b : Nat) : refF k l (i + 1) a b = if 1 + k.gifts.length + m = a ∧ k.gifts.length + k.meals.length + 1 = b then refF k l i a b - l.getD i 0 else if 0 = a ∧ 1 + g = b then refF k l i a b - l.getD i 0 else refF k l i a b := by
 have hd : i / k.gifts.length = m := by rw [hi, Nat.mul_comm m, Nat.mul_add_div (by omega), Nat.div_eq_of_lt hg]; rfl
 have hmo : i % k.gifts.length = g := by rw [hi, Nat.mul_comm m, Nat.mul_add_mod, Nat.mod_eq_of_lt hg]
 rcases ref_cases k l a b with ⟨g', hg', rfl, rfl⟩ | ⟨m', hm', rfl, rfl⟩ | ⟨g', m', hg', hm', rfl, rfl⟩ | ⟨h0, h1, h2, h3⟩
 ·rw [if_neg (fun q => by omega), refF_g k l _ hg', refF_g k l _ hg', goneL_succ, hmo]
  by_cases e : g = g'
  ·rw [if_pos e, if_pos ⟨rfl, by omega⟩]; omega
  ·rw [if_neg e, if_neg (fun q => e (by omega))]; omega
 ·rw [refF_m k l _ hm', refF_m k l _ hm', eatL_succ, hd, if_neg (show ¬ (0 = 1 + k.gifts.length + m' ∧ 1 + g = k.gifts.length + k.meals.length + 1) by omega)]
  by_cases e : m = m'
  ·rw [if_pos e, if_pos ⟨by omega, rfl⟩]; omega
  ·rw [if_neg e, if_neg (fun q => e (by omega))]; omega
 ·rw [refF_gm k l _ hg' hm', refF_gm k l _ hg' hm', if_neg (show ¬ (1 + k.gifts.length + m = 1 + g' ∧ k.gifts.length + k.meals.length + 1 = 1 + k.gifts.length + m') by omega), if_neg (show ¬ (0 = 1 + g' ∧ 1 + g = 1 + k.gifts.length + m') by omega)]
  generalize m' * k.gifts.length + g' = q
  by_cases h3 : q < i ∧ l.length ≤ q ∧ inP k m' g' = true
  ·omega
  ·rw [if_neg h3, if_neg (fun q' => by omega)]
 ·rw [if_neg (h2 m hm), if_neg (h1 g hg), h0, h0]
theorem refF_open (k : Kn) (l : List Int) {i m g : Nat} (hg : g < k.gifts.length) (hm : m < k.meals.length) (hi : i = m * k.gifts.length + g) (hge : l.length ≤ i) (a b : Nat) : refF k l (i + 1) a b = if 1 + g = a ∧ 1 + k.gifts.length + m = b ∧ inP k m g = true then 10000 else refF k l i a b := by
 have hz : l.getD i 0 = 0 := by rw [List.getD_eq_getElem?_getD, List.getElem?_eq_none hge]; rfl
 rcases ref_cases k l a b with ⟨g', hg', rfl, rfl⟩ | ⟨m', hm', rfl, rfl⟩ | ⟨g', m', hg', hm', rfl, rfl⟩ | ⟨h0, h1, h2, h3⟩
 ·rw [if_neg (fun q => by omega), refF_g k l _ hg', refF_g k l _ hg', goneL_succ, hz, ite_self]; omega
 ·rw [if_neg (fun q => by omega), refF_m k l _ hm', refF_m k l _ hm', eatL_succ, hz, ite_self]; omega
 ·rw [refF_gm k l _ hg' hm', refF_gm k l _ hg' hm']
  by_cases e : g = g' ∧ m = m'
  ·obtain ⟨rfl, rfl⟩ := e
   rw [← hi]
   by_cases h4 : inP k m g = true
   ·rw [if_pos ⟨by omega, hge, h4⟩, if_pos ⟨rfl, rfl, h4⟩]
   ·rw [if_neg (fun q => h4 q.2.2), if_neg (fun q => h4 q.2.2), if_neg (fun q => h4 q.2.2)]
  ·rw [if_neg (show ¬ (1 + g = 1 + g' ∧ 1 + k.gifts.length + m = 1 + k.gifts.length + m' ∧ inP k m g = true) from fun q => e (by omega))]
   have hne : m' * k.gifts.length + g' ≠ i := fun q => e (by
    obtain ⟨e1, e2⟩ := cell_uniq (n := k.gifts.length) (t := m') (t' := m) (i := g') (i' := g) hg' hg (by omega)
    omega)
   generalize m' * k.gifts.length + g' = q at hne
   by_cases h4 : q < i ∧ l.length ≤ q ∧ inP k m' g' = true
   ·rw [if_pos h4, if_pos ⟨by omega, h4.2⟩]
   ·rw [if_neg h4, if_neg (fun q' => h4 ⟨by omega, q'.2⟩)]
 ·rw [if_neg (fun q => h3 g m hg hm ⟨q.1, q.2.1⟩), h0, h0]
end Go.Proofs.Ytmagiabapakhcaa
