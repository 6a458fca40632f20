/- A part of the proofs about the chapter of the ramps; it states no condition of its own. -/
import Derived.Test.YtkipednlefbfpaaDoorB15
import Derived.Test.YtkipednlefbfpaaDoorB17
import Derived.Test.YtkipednlefbfpaaDoorB18
set_option linter.unusedVariables false
set_option linter.unusedSimpArgs false
open Int renaming reduceLE → zA, reduceLT → zB, reduceToNat → zC, reduceNeg → zD
open Nat renaming reduceLT → zE, reduceEqDiff → zF, reduceAdd → zG, reduceSub → zH, reduceMul → zI, reduceLeDiff → zJ
/- The best plan is found, plain. -/
namespace Go.Proofs.YtkipednlefbfpaaDoor
theorem lastV_le {y : Ya} {p : List St} {m : Int} : lastV y p ≤ m ↔ 0 ≤ m ∧ ∀ i, i < p.length → i < y.carts.length → (stAt p i).from_ + (ctAt y i).takes.hi ≤ m := by
 have key : ∀ (l : List Sp) (b : Int), (l.foldl (fun m s => max m s.hi) b) ≤ m ↔ b ≤ m ∧ ∀ s ∈ l, s.hi ≤ m := by
  intro l
  induction l with
  | nil => intro b; simp
  | cons s l ih =>
   intro b
   rw [List.foldl_cons, ih]
   constructor
   ·intro ⟨h1, h2⟩
    exact ⟨by omega, fun t ht => by
     rcases List.mem_cons.1 ht with rfl | ht
     ·omega
     ·exact h2 t ht⟩
   ·intro ⟨h1, h2⟩
    have := h2 s (by simp)
    exact ⟨by omega, fun t ht => h2 t (by simp [ht])⟩
 unfold lastV
 rw [key]
 constructor
 ·intro ⟨h1, h2⟩
  refine ⟨h1, fun i hi hi2 => ?_⟩
  have hm : (⟨(stAt p i).from_ + (ctAt y i).takes.lo, (stAt p i).from_ + (ctAt y i).takes.hi⟩ : Sp) ∈ awayL y p := by
   refine List.mem_map.2 ⟨(stAt p i, ctAt y i), ?_, rfl⟩
   refine List.mem_of_getElem? (i := i) ?_
   rw [List.getElem?_zip_eq_some]
   exact ⟨stAt_get hi, ctAt_get hi2⟩
  exact h2 _ hm
 ·intro ⟨h1, h2⟩
  refine ⟨h1, fun s hs => ?_⟩
  obtain ⟨⟨a, b⟩, hab, rfl⟩ := List.mem_map.1 hs
  obtain ⟨i, hi⟩ := List.getElem?_of_mem hab
  rw [List.getElem?_zip_eq_some] at hi
  obtain ⟨h3, h4⟩ := hi
  have hi1 := (List.getElem?_eq_some_iff.1 h3).1
  have hi2 := (List.getElem?_eq_some_iff.1 h4).1
  have := h2 i hi1 hi2
  rw [stAt_get hi1] at h3
  rw [ctAt_get hi2] at h4
  cases h3; cases h4
  exact this
theorem lastV_nn (y : Ya) (p : List St) : 0 ≤ lastV y p := (lastV_le.1 (Int.le_refl _)).1
theorem lastV_at {y : Ya} {p : List St} {i : Nat} (hi : i < p.length) (hi2 : i < y.carts.length) : (stAt p i).from_ + (ctAt y i).takes.hi ≤ lastV y p := (lastV_le.1 (Int.le_refl _)).2 i hi hi2
theorem first_un {plan q : List St} : un plan ≠ 0 → ∃ i, i < plan.length ∧ ¬ 0 ≤ (stAt plan i).ramp ∧ ∀ k, k < plan.length → ¬ 0 ≤ (stAt plan k).ramp → (stAt q i).from_ ≤ (stAt q k).from_ := by
 intro h
 have hex : ∃ i, i < plan.length ∧ ¬ 0 ≤ (stAt plan i).ramp := by
  have h2 : 0 < un plan := by omega
  unfold un at h2
  rw [List.countP_pos_iff] at h2
  obtain ⟨s, hs, hp⟩ := h2
  obtain ⟨i, hi⟩ := List.getElem?_of_mem hs
  have hlt := (List.getElem?_eq_some_iff.1 hi).1
  rw [stAt_get hlt] at hi
  cases hi
  refine ⟨i, hlt, fun h0 => ?_⟩
  rw [placed, decide_eq_true h0] at hp
  cases hp
 have key : ∀ n, n ≤ plan.length → (∃ i, i < n ∧ ¬ 0 ≤ (stAt plan i).ramp) → ∃ i, i < n ∧ ¬ 0 ≤ (stAt plan i).ramp ∧ ∀ k, k < n → ¬ 0 ≤ (stAt plan k).ramp → (stAt q i).from_ ≤ (stAt q k).from_ := by
  intro n
  induction n with
  | zero => intro _ ⟨i, hi, _⟩; omega
  | succ n ih =>
   intro hn ⟨i, hi, hp⟩
   by_cases hl : ∃ i, i < n ∧ ¬ 0 ≤ (stAt plan i).ramp
   ·obtain ⟨j, hj, hjp, hjm⟩ := ih (by omega) hl
    by_cases hcmp : ¬ 0 ≤ (stAt plan n).ramp ∧ (stAt q n).from_ < (stAt q j).from_
    ·refine ⟨n, by omega, hcmp.1, fun k hk hkp => ?_⟩
     rcases Nat.lt_or_ge k n with h1 | h1
     ·have := hjm k h1 hkp; omega
     ·rw [show k = n by omega]; exact Int.le_refl _
    ·refine ⟨j, by omega, hjp, fun k hk hkp => ?_⟩
     rcases Nat.lt_or_ge k n with h1 | h1
     ·exact hjm k h1 hkp
     ·rw [show k = n by omega] at hkp ⊢
      have : ¬ (stAt q n).from_ < (stAt q j).from_ := fun h => hcmp ⟨hkp, h⟩
      omega
   ·have hin : i = n := by
     rcases Nat.lt_or_ge i n with h1 | h1
     ·exact absurd ⟨i, h1, hp⟩ hl
     ·omega
    subst hin
    refine ⟨i, by omega, hp, fun k hk hkp => ?_⟩
    rcases Nat.lt_or_ge k i with h1 | h1
    ·exact absurd ⟨k, h1, hkp⟩ hl
    ·rw [show k = i by omega]; exact Int.le_refl _
 exact key plan.length (Nat.le_refl _) hex
theorem ext_step {y : Ya} {plan : List St} {free : List Int} {q : List St} (hy : YaV y) (h : SvOk y plan free) (hx : Ext y plan free q) (hu : un plan ≠ 0) :
  ∃ i r p, i < plan.length ∧ ¬ 0 ≤ (stAt plan i).ramp ∧ r ∈ (ctAt y i).ramps ∧ servC y plan free i r = some p ∧ ∃ q', Ext y p.1 p.2 q' ∧ leP y q' q := by
 obtain ⟨i, hi, hup, hmin⟩ := first_un (q := q) hu
 have hl := h.len
 have hfl := h.fl
 have hql := hx.len
 have c := hy.ct _ (ctAt_mem (y := y) (i := i) (by omega))
 have hr := hx.r i hi hup
 have hbr := hx.br i hi hup
 have h1 := hx.f1 i hi hup
 have h2 := hx.f2 i hi hup
 have h3 := hx.f3 i hi hup
 have h4 := hx.f4 i hi hup
 have h5 := hx.fr i hi hup
 obtain ⟨hr0, hr1⟩ := c.r _ hr
 have hs0 := hy.s0
 generalize hrr : (stAt q i).ramp = r at *
 have hA : candF y free i r ≤ (stAt q i).from_ := by unfold candF; omega
 obtain ⟨b1, b2, b3⟩ := candF_le y free i r
 have hsc : servC y plan free i r = some (plan.set i ⟨r, candF y free i r⟩, free.set r.toNat (candF y free i r + (ctAt y i).takes.hi + y.sweep)) := by
  unfold servC
  rw [if_neg (by omega), if_neg (by omega), if_neg (by omega)]
 refine ⟨i, r, _, hi, hup, hr, hsc, q.set i ⟨r, candF y free i r⟩, ?_, ?_⟩
 ·generalize candF y free i r = A at *
  have hpi : stAt (plan.set i ⟨r, A⟩) i = ⟨r, A⟩ := by rw [stAt_set hi, if_pos rfl]
  have hpk : ∀ k, k ≠ i → stAt (plan.set i ⟨r, A⟩) k = stAt plan k := fun k hk => by rw [stAt_set hi, if_neg (fun e => hk e.symm)]
  have hqi : stAt (q.set i ⟨r, A⟩) i = ⟨r, A⟩ := by rw [stAt_set (by omega), if_pos rfl]
  have hqk : ∀ k, k ≠ i → stAt (q.set i ⟨r, A⟩) k = stAt q k := fun k hk => by rw [stAt_set (by omega), if_neg (fun e => hk e.symm)]
  have hlen : (plan.set i ⟨r, A⟩).length = plan.length := by simp
  have hnp : ∀ k, ¬ 0 ≤ (stAt (plan.set i ⟨r, A⟩) k).ramp → k ≠ i ∧ ¬ 0 ≤ (stAt plan k).ramp := fun k hk => by
   by_cases e : k = i
   ·subst e
    rw [hpi] at hk
    exact absurd hr0 hk
   ·rw [hpk k e] at hk
    exact ⟨e, hk⟩
  show Ext y (plan.set i ⟨r, A⟩) (free.set r.toNat (A + (ctAt y i).takes.hi + y.sweep)) (q.set i ⟨r, A⟩)
  refine ⟨by simp [hql], fun k hk h0 => ?_, fun k hk h0 => ?_, fun k hk h0 => ?_, fun k hk h0 => ?_, fun k hk h0 => ?_, fun k hk h0 => ?_, fun k hk h0 => ?_, fun k hk h0 => ?_, fun j k hj hk hne h0 h1 hre => ?_⟩
  ·rw [hlen] at hk
   by_cases e : k = i
   ·subst e; rw [hqi, hpi]
   ·rw [hpk k e] at h0 ⊢
    rw [hqk k e]
    exact hx.old k (by omega) h0
  ·rw [hlen] at hk
   obtain ⟨e, h0⟩ := hnp k h0
   rw [hqk k e]; exact hx.r k (by omega) h0
  ·rw [hlen] at hk
   obtain ⟨e, h0⟩ := hnp k h0
   rw [hqk k e]; exact hx.br k (by omega) h0
  ·rw [hlen] at hk
   obtain ⟨e, h0⟩ := hnp k h0
   rw [hqk k e]; exact hx.f1 k (by omega) h0
  ·rw [hlen] at hk
   obtain ⟨e, h0⟩ := hnp k h0
   rw [hqk k e]; exact hx.f2 k (by omega) h0
  ·rw [hlen] at hk
   obtain ⟨e, h0⟩ := hnp k h0
   rw [hqk k e]; exact hx.f3 k (by omega) h0
  ·rw [hlen] at hk
   obtain ⟨e, h0⟩ := hnp k h0
   rw [hqk k e]; exact hx.f4 k (by omega) h0
  ·rw [hlen] at hk
   obtain ⟨e, h0⟩ := hnp k h0
   have hk' : k < plan.length := by omega
   rw [hqk k e, tkAt_set (by omega)]
   have ck := hy.ct _ (ctAt_mem (y := y) (i := k) (by omega))
   obtain ⟨hk0, hk1⟩ := ck.r _ (hx.r k hk' h0)
   have ckl := ck.l0
   have ckh := ck.lh
   have hm := hmin k hk' h0
   by_cases e2 : r.toNat = (stAt q k).ramp.toNat
   ·rw [if_pos e2]
    have e3 : (stAt q i).ramp = (stAt q k).ramp := by rw [hrr]; omega
    rcases hx.sep i k hi hk' (fun h => e h.symm) hup h0 e3 with h6 | h6
    ·omega
    ·omega
   ·rw [if_neg e2]; exact hx.fr k hk' h0
  ·rw [hlen] at hj hk
   obtain ⟨e, h0⟩ := hnp j h0
   obtain ⟨e', h1⟩ := hnp k h1
   rw [hqk j e, hqk k e'] at hre ⊢
   exact hx.sep j k (by omega) (by omega) hne h0 h1 hre
 ·have hlast : lastV y (q.set i ⟨r, candF y free i r⟩) ≤ lastV y q := by
   rw [lastV_le]
   refine ⟨lastV_nn y q, fun k hk hk2 => ?_⟩
   rw [stAt_set (by omega)]
   by_cases e : i = k
   ·subst e
    rw [if_pos rfl]
    have := lastV_at (y := y) (p := q) (i := i) (by omega) (by omega)
    simp only
    omega
   ·rw [if_neg e]
    exact lastV_at (by simpa using hk) hk2
  by_cases hlt : lastV y (q.set i ⟨r, candF y free i r⟩) < lastV y q
  ·exact .inl hlt
  ·refine .inr ⟨by omega, beforeB_set (by omega) ?_⟩
   cases hs : sltB (stAt q i) ⟨r, candF y free i r⟩ with
   | false => rfl
   | true =>
    rw [sltB_true, hrr] at hs
    simp only at hs
    omega
theorem fold_some {α : Type} {y : Ya} {f : Option (List St) → α → Option (List St)} {N : Nat} (hf : ∀ best a z, (∀ b, best = some b → b.length = N) → f best a = some z → z.length = N)
  (hm : ∀ best a b, (∀ b, best = some b → b.length = N) → best = some b → ∃ z, f best a = some z ∧ leP y z b) :
  ∀ (l : List α) (best : Option (List St)), (∀ b, best = some b → b.length = N) → (∀ z, l.foldl f best = some z → z.length = N) ∧ ∀ b, best = some b → ∃ z, l.foldl f best = some z ∧ leP y z b
 | [], best, hb => ⟨hb, fun b h => ⟨b, h, leP_refl y b⟩⟩
 | a :: l, best, hb => by
  have hb' : ∀ b, f best a = some b → b.length = N := fun b h => hf best a b hb h
  obtain ⟨h1, h2⟩ := fold_some hf hm l (f best a) hb'
  refine ⟨h1, fun b h => ?_⟩
  obtain ⟨z, hz, hz2⟩ := hm best a b hb h
  obtain ⟨w, hw, hw2⟩ := h2 z hz
  exact ⟨w, hw, leP_trans ((h1 w hw).trans (hb' z hz).symm) ((hb' z hz).trans (hb b h).symm) hw2 hz2⟩
theorem fold_hit {α : Type} {y : Ya} {f : Option (List St) → α → Option (List St)} {N : Nat} (hf : ∀ best a z, (∀ b, best = some b → b.length = N) → f best a = some z → z.length = N)
  (hm : ∀ best a b, (∀ b, best = some b → b.length = N) → best = some b → ∃ z, f best a = some z ∧ leP y z b) {l : List α} {a : α} (ha : a ∈ l) {x : List St} (hx : x.length = N)
  (hh : ∀ best, (∀ b, best = some b → b.length = N) → ∃ z, f best a = some z ∧ leP y z x) {best : Option (List St)} (hb : ∀ b, best = some b → b.length = N) : ∃ z, l.foldl f best = some z ∧ z.length = N ∧ leP y z x := by
 obtain ⟨l1, l2, rfl⟩ := List.append_of_mem ha
 rw [List.foldl_append, List.foldl_cons]
 have h1 := (fold_some hf hm l1 best hb).1
 obtain ⟨z, hz, hz2⟩ := hh _ h1
 have hzl := hf _ a z h1 hz
 obtain ⟨h3, h4⟩ := fold_some hf hm l2 (f (l1.foldl f best) a) (fun b h => hf _ a b h1 h)
 obtain ⟨w, hw, hw2⟩ := h4 z hz
 exact ⟨w, hw, h3 w hw, leP_trans ((h3 w hw).trans hzl.symm) (hzl.trans hx.symm) hw2 hz2⟩
theorem servR_best {y : Ya} (hy : YaV y) : ∀ (n : Nat) (plan : List St) (free : List Int), SvOk y plan free → un plan ≤ n →
  (∀ x, servR y n plan free = some x → Ext y plan free x) ∧ ∀ q, Ext y plan free q → ∃ x, servR y n plan free = some x ∧ leP y x q
 | 0, plan, free, h, hu => by
  have ha := all_un (plan := plan) (by omega)
  exact ⟨fun x hx => by cases hx; exact ext_all ha, fun q hq => ⟨plan, rfl, by rw [hq.all ha]; exact leP_refl y plan⟩⟩
 | n + 1, plan, free, h, hu => by
  cases ha : plan.all placed with
  | true =>
   rw [servR, if_pos ha]
   exact ⟨fun x hx => by cases hx; exact ext_all ha, fun q hq => ⟨plan, rfl, by rw [hq.all ha]; exact leP_refl y plan⟩⟩
  | false =>
   have hl := h.len
   have hun : un plan ≠ 0 := fun e => by rw [all_un e] at ha; cases ha
   rw [servR, if_neg (by rw [ha]; decide)]
   -- one step
   have hstep : ∀ i, i < plan.length → ¬ 0 ≤ (stAt plan i).ramp → ∀ r ∈ (ctAt y i).ramps, ∀ p, servC y plan free i r = some p → ∀ x, servR y n p.1 p.2 = some x → Ext y plan free x := fun i hi hp r hr p hpq x hx => by
    have c := hy.ct _ (ctAt_mem (y := y) (i := i) (by omega))
    obtain ⟨hr0, hr1⟩ := c.r r hr
    have hok := servC_ok hy h hi hr0 hr1 hpq
    have hue := servC_un hi hr0 hp hpq
    exact ext_back hy h hi hp hr hpq ((servR_best hy n p.1 p.2 hok (by omega)).1 x hx)
   constructor
   ·intro x hx
    refine fold_inv (p := fun best : Option (List St) => ∀ b, best = some b → Ext y plan free b) (fun b hb => by cases hb) (fun i hi best hb => ?_) x hx
    unfold stepI
    split
    ·exact hb
    ·rename_i hp
     refine fold_inv (p := fun best : Option (List St) => ∀ b, best = some b → Ext y plan free b) hb fun r hr best hbest b hbs => ?_
     unfold stepK at hbs
     split at hbs
     ·exact hbest b hbs
     ·rename_i q hq
      split at hbs
      ·exact hbest b hbs
      ·rename_i z hz
       rcases better_some hbs with rfl | h2
       ·exact hstep i (List.mem_range.1 hi) hp r hr q hq _ hz
       ·exact hbest b h2
   ·intro q hq
    obtain ⟨i, r, p, hi, hp, hr, hpq, q', hq', hle⟩ := ext_step hy h hq hun
    have c := hy.ct _ (ctAt_mem (y := y) (i := i) (by omega))
    obtain ⟨hr0, hr1⟩ := c.r r hr
    have hok := servC_ok hy h hi hr0 hr1 hpq
    have hue := servC_un hi hr0 hp hpq
    obtain ⟨x, hx, hxq⟩ := (servR_best hy n p.1 p.2 hok (by omega)).2 q' hq'
    have hxl : x.length = plan.length := (hstep i hi hp r hr p hpq x hx).len
    have hql : q'.length = plan.length := by rw [hq'.len, hok.len, hl]
    -- all steps keep the length, and never worsen
    have kf : ∀ j, ∀ (best : Option (List St)) (r : Int) (z : List St), (∀ b, best = some b → b.length = plan.length) → stepK y (servR y n) plan free j best r = some z → (j < plan.length → ¬ 0 ≤ (stAt plan j).ramp → r ∈ (ctAt y j).ramps → z.length = plan.length) := by
     intro j best r z hb hz hj hjp hjr
     unfold stepK at hz
     split at hz
     ·exact hb z hz
     ·rename_i q2 hq2
      split at hz
      ·exact hb z hz
      ·rename_i z2 hz2
       rcases better_some hz with rfl | h2
       ·exact (hstep j hj hjp r hjr q2 hq2 _ hz2).len
       ·exact hb z h2
    have km : ∀ j, j < plan.length → ¬ 0 ≤ (stAt plan j).ramp → ∀ (best : Option (List St)) (r : Int) (b : List St), r ∈ (ctAt y j).ramps → (∀ b, best = some b → b.length = plan.length) → best = some b → ∃ z, stepK y (servR y n) plan free j best r = some z ∧ leP y z b := by
     intro j hj hjp best r b hjr hb hbb
     unfold stepK
     split
     ·exact ⟨b, hbb, leP_refl y b⟩
     ·rename_i q2 hq2
      split
      ·exact ⟨b, hbb, leP_refl y b⟩
      ·rename_i z2 hz2
       have hl2 := (hstep j hj hjp r hjr q2 hq2 _ hz2).len
       obtain ⟨z, h1, h2, h3⟩ := better_le (y := y) (best := best) (x := z2) (fun b h => by rw [hb b h, hl2])
       exact ⟨z, h1, h3 b hbb⟩
    -- the same for a cart's ramps; ramps are taken with their membership
    have If : ∀ (best : Option (List St)) (j : {j // j < plan.length}) (z : List St), (∀ b, best = some b → b.length = plan.length) → stepI y (servR y n) plan free best j.1 = some z → z.length = plan.length := by
     intro best j z hb hz
     unfold stepI at hz
     split at hz
     ·exact hb z hz
     ·rename_i hjp
      exact fold_inv (p := fun best : Option (List St) => ∀ b, best = some b → b.length = plan.length) hb (fun r hr best hbest b hbs => kf j.1 best r b hbest hbs j.2 hjp hr) z hz
    have hattach : ∀ (j : Nat), j < plan.length → ¬ 0 ≤ (stAt plan j).ramp → ∀ best : Option (List St), (ctAt y j).ramps.foldl (stepK y (servR y n) plan free j) best = (ctAt y j).ramps.attach.foldl (fun best r => stepK y (servR y n) plan free j best r.1) best := fun j _ _ best => by
     rw [List.foldl_attach]
    have Im : ∀ (best : Option (List St)) (j : {j // j < plan.length}) (b : List St), (∀ b, best = some b → b.length = plan.length) → best = some b → ∃ z, stepI y (servR y n) plan free best j.1 = some z ∧ leP y z b := by
     intro best j b hb hbb
     unfold stepI
     split
     ·exact ⟨b, hbb, leP_refl y b⟩
     ·rename_i hjp
      rw [hattach j.1 j.2 hjp]
      exact (fold_some (y := y) (N := plan.length) (f := fun best (r : {r // r ∈ (ctAt y j.1).ramps}) => stepK y (servR y n) plan free j.1 best r.1) (fun best r z hb hz => kf j.1 best r.1 z hb hz j.2 hjp r.2)
       (fun best r b hb hbb => km j.1 j.2 hjp best r.1 b r.2 hb hbb) _ best hb).2 b hbb
    have hIi : ∀ best : Option (List St), (∀ b, best = some b → b.length = plan.length) → ∃ z, stepI y (servR y n) plan free best i = some z ∧ leP y z x := by
     intro best hb
     unfold stepI
     rw [if_neg hp, hattach i hi hp]
     obtain ⟨z, h1, _, h2⟩ := fold_hit (y := y) (N := plan.length) (f := fun best (r : {r // r ∈ (ctAt y i).ramps}) => stepK y (servR y n) plan free i best r.1) (fun best r z hb hz => kf i best r.1 z hb hz hi hp r.2)
       (fun best r b hb hbb => km i hi hp best r.1 b r.2 hb hbb) (List.mem_attach _ ⟨r, hr⟩) hxl (fun best hb => by
         simp only [stepK, hpq, hx]
         obtain ⟨z, h1, h2, h3⟩ := better_le (y := y) (best := best) (x := x) (fun b h => by rw [hb b h, hxl])
         exact ⟨z, h1, h2⟩) hb
     exact ⟨z, h1, h2⟩
    obtain ⟨L, hL1, hL2⟩ : ∃ L : List {j // j < plan.length}, (List.range plan.length).foldl (stepI y (servR y n) plan free) none = L.foldl (fun best j => stepI y (servR y n) plan free best j.1) none ∧ (⟨i, hi⟩ : {j // j < plan.length}) ∈ L :=
     ⟨(List.range plan.length).attach.map (fun j => ⟨j.1, List.mem_range.1 j.2⟩), by rw [List.foldl_map, List.foldl_attach], List.mem_map.2 ⟨⟨i, List.mem_range.2 hi⟩, List.mem_attach _ _, rfl⟩⟩
    rw [hL1]
    obtain ⟨z, h1, hzl, h2⟩ := fold_hit (y := y) (N := plan.length) (f := fun best (j : {j // j < plan.length}) => stepI y (servR y n) plan free best j.1) If Im hL2 hxl hIi (best := none) (fun b h => by cases h)
    exact ⟨z, h1, leP_trans (hzl.trans hql.symm) (hql.trans hq.len.symm) (leP_trans (hzl.trans hxl.symm) (hxl.trans hql.symm) h2 hxq) hle⟩
end Go.Proofs.YtkipednlefbfpaaDoor

/- A yard for which a plan is sought, plain: when ramps are done. -/
namespace Go.Proofs.YtkipednlefbfpaaDoor
structure Ry where
 y : Ya
 wk : List (Nat × Nat)
 frm : List Int
 til : Int
def mustAt (R : Ry) (r : Nat) : Nat := (R.wk.getD r (0, 0)).1
def notAt (R : Ry) (r : Nat) : Nat := (R.wk.getD r (0, 0)).2
def frmAt (R : Ry) (c : Nat) : Int := R.frm.getD c 0
structure RyOk (R : Ry) : Prop where
 y : YaV R.y
 wl : R.wk.length = 3
 fl : R.frm.length = 7
 w : ∀ r, mustAt R r < 128 ∧ notAt R r < 128
 f : ∀ c, 0 ≤ frmAt R c ∧ frmAt R c ≤ 1000
 t0 : 0 ≤ R.til
 t1 : R.til ≤ 1000
def rAt (R : Ry) (r : Nat) : Ra := raAt R.y r
def mayB (R : Ry) (c r : Nat) : Bool := decide ((r : Int) ∈ (ctAt R.y c).ramps) && decide ((ctAt R.y c).grams ≤ (rAt R r).bears) && !(notAt R r).testBit c
def never : Int := 1048576
def lastF (R : Ry) (r c : Nat) (t : List Int) (s : Nat) : Int :=
 let f0 := max (ctAt R.y c).from_ (rAt R r).open_
 if 0 < sdiff s (2 ^ c) then max f0 (t.getD (sdiff s (2 ^ c)) 0 + R.y.sweep) else f0
def comeF (R : Ry) (r c : Nat) (t : List Int) (s : Nat) : Option Int :=
 if (mustAt R r).testBit c then (if frmAt R c < lastF R r c t s then none else some (frmAt R c)) else some (lastF R r c t s)
def limF (R : Ry) (r c : Nat) : Int := min (min (ctAt R.y c).until_ (rAt R r).shut) R.til
def stepD (R : Ry) (r : Nat) (s : Nat) (t : List Int) (c : Nat) : List Int :=
 if s.testBit c && mayB R c r then
  match comeF R r c t s with
  | none => t
  | some f => if f + (ctAt R.y c).takes.hi ≤ limF R r c then t.set s (min (t.getD s 0) (f + (ctAt R.y c).takes.hi)) else t
 else t
def rowD (R : Ry) (r : Nat) (t : List Int) (s : Nat) : List Int := (List.range R.y.carts.length).foldl (stepD R r s) (t.set s never)
def doneL (R : Ry) (r : Nat) : List Int := (List.range' 1 (2 ^ R.y.carts.length - 1)).foldl (rowD R r) (List.replicate 128 0)
theorem stepD_len (R : Ry) (r s : Nat) (t : List Int) (c : Nat) : (stepD R r s t c).length = t.length := by
 unfold stepD
 split
 ·split
  ·rfl
  ·split <;> simp
 ·rfl
theorem rowD_len (R : Ry) (r : Nat) (t : List Int) (s : Nat) : (rowD R r t s).length = t.length := by
 unfold rowD
 generalize List.range R.y.carts.length = l
 have : ∀ (l : List Nat) (t : List Int), (l.foldl (stepD R r s) t).length = t.length := by
  intro l
  induction l with
  | nil => intro t; rfl
  | cons c l ih => intro t; rw [List.foldl_cons, ih, stepD_len]
 rw [this]; simp
theorem foldD_len (R : Ry) (r : Nat) : ∀ (l : List Nat) (t : List Int), (l.foldl (rowD R r) t).length = t.length := by
 intro l
 induction l with
 | nil => intro t; rfl
 | cons c l ih => intro t; rw [List.foldl_cons, ih, rowD_len]
theorem doneL_len (R : Ry) (r : Nat) : (doneL R r).length = 128 := by
 unfold doneL
 rw [foldD_len]; simp
def TB (t : List Int) : Prop := ∀ x ∈ t, 0 ≤ x ∧ x ≤ 1048576
theorem TB.getD {t : List Int} (h : TB t) (i : Nat) : 0 ≤ t.getD i 0 ∧ t.getD i 0 ≤ 1048576 := by
 rw [List.getD_eq_getElem?_getD]
 cases hx : t[i]? with
 | none => simp
 | some x => exact h x (List.mem_of_getElem? hx)
theorem TB.set {t : List Int} {i : Nat} {x : Int} (h : TB t) (hx : 0 ≤ x ∧ x ≤ 1048576) : TB (t.set i x) := fun z hz => by
 rcases List.mem_or_eq_of_mem_set hz with h1 | h1
 ·exact h z h1
 ·rw [h1]; exact hx
theorem lastF_bd {R : Ry} {r c : Nat} {t : List Int} {s : Nat} (h : RyOk R) (hr : r < R.y.ramps.length) (hc : c < R.y.carts.length) (ht : TB t) : 0 ≤ lastF R r c t s ∧ lastF R r c t s ≤ 2000000 := by
 have a := h.y.ct _ (ctAt_mem hc)
 have b := h.y.ra _ (raAt_mem (r := (r : Int)) (by omega) (by omega))
 have a1 := a.f0
 have a2 := a.fu
 have a3 := a.u1
 have b1 := b.o0
 have b2 := b.os
 have b3 := b.s1
 have c1 := h.y.s0
 have c2 := h.y.s1
 have d := ht.getD (sdiff s (2 ^ c))
 unfold lastF rAt
 simp only
 split <;> omega
theorem stepD_tb {R : Ry} {r s c : Nat} {t : List Int} (h : RyOk R) (hr : r < R.y.ramps.length) (hc : c < R.y.carts.length) (ht : TB t) : TB (stepD R r s t c) := by
 unfold stepD
 split
 ·split
  ·exact ht
  ·rename_i f hf
   have hl := lastF_bd (s := s) h hr hc ht
   have hfr := h.f c
   have a := h.y.ct _ (ctAt_mem hc)
   have a1 := a.l0
   have a2 := a.lh
   have a3 := a.h1
   have hf0 : 0 ≤ f ∧ f ≤ 2000000 := by
    unfold comeF at hf
    split at hf
    ·split at hf
     ·cases hf
     ·cases hf; omega
    ·cases hf; exact hl
   split
   ·have d := ht.getD s
    exact ht.set (by omega)
   ·exact ht
 ·exact ht
theorem rowD_tb {R : Ry} {r s : Nat} {t : List Int} (h : RyOk R) (hr : r < R.y.ramps.length) (ht : TB t) : TB (rowD R r t s) := by
 unfold rowD
 have h0 : TB (t.set s never) := ht.set (by unfold never; omega)
 exact fold_inv (p := TB) h0 fun c hc t ht => stepD_tb h hr (List.mem_range.1 hc) ht
theorem doneL_tb {R : Ry} {r : Nat} (h : RyOk R) (hr : r < R.y.ramps.length) : TB (doneL R r) :=
 fold_inv (p := TB) (fun x hx => by rw [List.mem_replicate] at hx; omega) fun s _ t ht => rowD_tb h hr ht
end Go.Proofs.YtkipednlefbfpaaDoor

/- The program's check of plans, on values. (Vm) -/
namespace Go.Proofs.YtkipednlefbfpaaDoor.Vm
open Go Go.Proofs
theorem checkPlan_v (y : Ya) (p : List St) (M : Mem) (hn : y.ramps.length ≤ 1000000) (hm : y.carts.length ≤ 1000000) (hl : ∀ c ∈ y.carts, c.ramps.length ≤ 1000000) (hp : p.length ≤ 1000000) : VC Tryd.prog 9 [yardV y, stsV p] M (fun x M' => M' = M ∧ x = vi (plErr y p)) := by
 have e1 : plErr y p = plErr y p := rfl
 conv at e1 => rhs; unfold plErr
 have k0 : -9223372036854775808 ≤ (y.ramps.length : Int) - 1 ∧ (y.ramps.length : Int) - 1 < 9223372036854775808 := by omega
 refine VC_own' T_ok (f := 9) (fn := Tryd.f9) (by kernel_rfl) rfl Tryd.ntmps9 (by rfl) (by rfl) ?_
 ((repeat refine Ws ?_);refine Wr ?_)
 simp (maxSteps := 1000000) only [VL,VM,↓VG,reduceIte,reduceCtorEq,zA,zB,zC,zD,zE,zF,zG,zH,zI,zJ]
 ((repeat refine Ws ?_);refine Wr ?_)
 simp (maxSteps := 1000000) only [VL,VM,↓VG,reduceIte,reduceCtorEq,zA,zB,zC,zD,zE,zF,zG,zH,zI,zJ]
 apply call_eq (f := 7) (fn := Tryd.f7) (by kernel_rfl) (by rfl)
 ·exact check_v y _ hn hm hl
 simp (maxSteps := 1000000) only [VL,VM,↓VG,reduceIte,reduceCtorEq,zA,zB,zC,zD,zE,zF,zG,zH,zI,zJ]
 ((repeat refine Ws ?_);refine Wr ?_)
 by_cases h1 : yErr y = 0
 ·rw [if_pos h1] at e1
  simp (maxSteps := 1000000) only [VL,VM,↓VG,reduceIte,reduceCtorEq,zA,zB,zC,zD,zE,zF,zG,zH,zI,zJ, h1]
  ((repeat refine Ws ?_);refine Wf (by first|rfl|simp only [EV,zF,reduceIte]) ?_)
  ((repeat refine Ws ?_);refine W_skip ?_)
  simp (maxSteps := 1000000) only [VL,VM,↓VG,reduceIte,reduceCtorEq,zA,zB,zC,zD,zE,zF,zG,zH,zI,zJ]
  ((repeat refine Ws ?_);refine Wr ?_)
  by_cases h2 : p.length = y.carts.length
  ·rw [if_pos h2] at e1
   have k : ((p.length : Int) = (y.carts.length : Int)) = True := eq_true (by omega)
   simp (maxSteps := 1000000) only [VL,VM,↓VG,reduceIte,reduceCtorEq,zA,zB,zC,zD,zE,zF,zG,zH,zI,zJ, k]
   ((repeat refine Ws ?_);refine Wf (by first|rfl|simp only [EV,zF,reduceIte]) ?_)
   ((repeat refine Ws ?_);refine W_skip ?_)
   simp (maxSteps := 1000000) only [VL,VM,↓VG,reduceIte,reduceCtorEq,zA,zB,zC,zD,zE,zF,zG,zH,zI,zJ]
   ((repeat refine Ws ?_);refine Wr ?_)
   simp (maxSteps := 1000000) only [VL,VM,↓VG,reduceIte,reduceCtorEq,zA,zB,zC,zD,zE,zF,zG,zH,zI,zJ]
   ((repeat refine Ws ?_);refine W_block ?_; (repeat refine Ws ?_)); refine W_loopS (fun (s : Nat × List VObj) => [(1, stsV p), (2, .ptr M.H.length 0), (20, stsV p), (21, vi p.length), (22, vi s.1)]) (fun s => ⟨M.H ++ .obj (yardC y) :: s.2, M.lg⟩) (fun s => p.length - s.1) (fun s => s.1 ≤ p.length ∧ plErr y p = slsErr y (p.drop s.1) (y.carts.drop s.1)) (0, []) ⟨by simp, e1⟩ ⟨rfl, rfl, rfl, rfl, rfl, trivial⟩ rfl ?_
   rintro ⟨i, L⟩ ⟨hi, he⟩
   simp only at hi he
   have k1 : -9223372036854775808 ≤ (i : Int) + 1 ∧ (i : Int) + 1 < 9223372036854775808 := by omega
   ((repeat refine Ws ?_);refine Wr ?_)
   rcases Nat.lt_or_ge i p.length with hlt | hge
   ·have k2 : ((i : Int) < (p.length : Int)) = True := eq_true (by omega)
    have hx : p[i]? = some p[i] := List.getElem?_eq_getElem hlt
    have hx' := map_at (f := stP) hx
    have hlt2 : i < y.carts.length := by omega
    have hy : y.carts[i]? = some y.carts[i] := List.getElem?_eq_getElem hlt2
    have hy' := map_at (f := ctP) hy
    have hll := hl _ (List.getElem_mem hlt2)
    rw [slsErr_at hlt hlt2] at he
    generalize hr : y.carts[i] = c at hy hy' he hll
    generalize hs : p[i] = s at hx hx' he
    have e2 : slErr y s c = slErr y s c := rfl
    conv at e2 => rhs; unfold slErr
    simp (maxSteps := 1000000) only [VL,VM,↓VG,reduceIte,reduceCtorEq,zA,zB,zC,zD,zE,zF,zG,zH,zI,zJ, k2]
    ((repeat refine Ws ?_);refine Wt (by first|rfl|simp only [EV,zF,reduceIte]) ?_)
    ((repeat refine Ws ?_);refine W_skip ?_)
    simp (maxSteps := 1000000) only [VL,VM,↓VG,reduceIte,reduceCtorEq,zA,zB,zC,zD,zE,zF,zG,zH,zI,zJ]
    ((repeat refine Ws ?_);refine W_block ?_)
    ((repeat refine Ws ?_);refine Wr ?_)
    simp (maxSteps := 1000000) only [VL,VM,↓VG,reduceIte,reduceCtorEq,zA,zB,zC,zD,zE,zF,zG,zH,zI,zJ, hx']
    ((repeat refine Ws ?_);refine Wr ?_)
    simp (maxSteps := 1000000) only [VL,VM,↓VG,reduceIte,reduceCtorEq,zA,zB,zC,zD,zE,zF,zG,zH,zI,zJ, hy']
    ((repeat refine Ws ?_);refine W_block ?_)
    ((repeat refine Ws ?_);refine Wr ?_)
    simp (maxSteps := 1000000) only [VL,VM,↓VG,reduceIte,reduceCtorEq,zA,zB,zC,zD,zE,zF,zG,zH,zI,zJ, k0]
    apply call_eq (f := 23) (fn := Tryd.f23) (by kernel_rfl) (by rfl)
    ·exact in_v _ _ _ _
    cases g1 : inR s.ramp 0 ((y.ramps.length : Int) - 1)
    ·rw [g1] at e2
     rw [e2] at he
     simp (maxSteps := 1000000) only [VL,VM,↓VG,reduceIte,reduceCtorEq,zA,zB,zC,zD,zE,zF,zG,zH,zI,zJ]
     ((repeat refine Ws ?_);refine Wt (by first|rfl|simp only [EV,zF,reduceIte]) ?_)
     ((repeat refine Ws ?_);refine Wr ?_)
     simp (maxSteps := 1000000) only [VL,VM,↓VG,reduceIte,reduceCtorEq,zA,zB,zC,zD,zE,zF,zG,zH,zI,zJ]
     (repeat refine Ws ?_)
     refine W_ret ?_
     try simp only [thenQ, blockQ]
     refine own_ret1 rfl ?_ (by rfl)
     simp only [get_cons, frz, vtup, Nat.reduceEqDiff, if_true, if_false, reduceIte]
     rw [he]; rfl
    rw [g1, if_pos rfl] at e2
    rw [inR_true] at g1
    have hz : y.ramps[s.ramp.toNat]? = some y.ramps[s.ramp.toNat] := List.getElem?_eq_getElem (by omega)
    have hz' := map_at (f := raP) hz
    have hb : bearsAt y s.ramp = (y.ramps[s.ramp.toNat]'(by omega)).bears := by
     unfold bearsAt
     rw [List.getD_eq_getElem?_getD, hz]; rfl
    rw [hb] at e2
    generalize (y.ramps[s.ramp.toNat]'(by omega)) = r at hz hz' e2
    have k5 : 0 ≤ s.ramp := g1.1
    simp (maxSteps := 1000000) only [VL,VM,↓VG,reduceIte,reduceCtorEq,zA,zB,zC,zD,zE,zF,zG,zH,zI,zJ]
    ((repeat refine Ws ?_);refine Wf (by first|rfl|simp only [EV,zF,reduceIte]) ?_)
    ((repeat refine Ws ?_);refine Wr ?_)
    simp (maxSteps := 1000000) only [VL,VM,↓VG,reduceIte,reduceCtorEq,zA,zB,zC,zD,zE,zF,zG,zH,zI,zJ]
    apply call_eq (f := 24) (fn := Tryd.f24) (by kernel_rfl) (by rfl)
    ·exact contains_v c.ramps s.ramp _ hll
    by_cases g2 : s.ramp ∈ c.ramps
    ·rw [if_pos g2] at e2
     simp (maxSteps := 1000000) only [VL,VM,↓VG,reduceIte,reduceCtorEq,zA,zB,zC,zD,zE,zF,zG,zH,zI,zJ, g2]
     ((repeat refine Ws ?_);refine Wf (by first|rfl|simp only [EV,zF,reduceIte]) ?_)
     by_cases g3 : r.bears < c.grams
     ·rw [if_pos g3] at e2
      rw [e2] at he
      (repeat refine Ws ?_)
      refine W_drawP T_ok [] (by kernel_rfl) (by kernel_rfl) ?_
      generalize hi : mkPlan _ = infs
      cbv at hi
      subst hi
      simp (maxSteps := 1000000) only [VL,VM,↓VG,reduceIte,reduceCtorEq,zA,zB,zC,zD,zE,zF,zG,zH,zI,zJ, k5, hz', g3]
      ((repeat refine Ws ?_);refine Wt (by first|rfl|simp only [EV,zF,reduceIte]) ?_)
      ((repeat refine Ws ?_);refine Wr ?_)
      simp (maxSteps := 1000000) only [VL,VM,↓VG,reduceIte,reduceCtorEq,zA,zB,zC,zD,zE,zF,zG,zH,zI,zJ]
      (repeat refine Ws ?_)
      refine W_ret ?_
      try simp only [thenQ, blockQ]
      refine own_ret1 rfl ?_ (by rfl)
      simp only [get_cons, frz, vtup, Nat.reduceEqDiff, if_true, if_false, reduceIte]
      rw [he]; rfl
     rw [if_neg g3] at e2
     (repeat refine Ws ?_)
     refine W_drawP T_ok [] (by kernel_rfl) (by kernel_rfl) ?_
     generalize hi : mkPlan _ = infs
     cbv at hi
     subst hi
     simp (maxSteps := 1000000) only [VL,VM,↓VG,reduceIte,reduceCtorEq,zA,zB,zC,zD,zE,zF,zG,zH,zI,zJ, k5, hz', g3]
     ((repeat refine Ws ?_);refine Wf (by first|rfl|simp only [EV,zF,reduceIte]) ?_)
     ((repeat refine Ws ?_);refine Wr ?_)
     simp (maxSteps := 1000000) only [VL,VM,↓VG,reduceIte,reduceCtorEq,zA,zB,zC,zD,zE,zF,zG,zH,zI,zJ]
     apply call_eq (f := 22) (fn := Tryd.f22) (by kernel_rfl) (by rfl)
     ·exact dawn_1 s.from_ _
     cases g4 : dawnB s.from_
     ·rw [g4] at e2
      rw [e2] at he
      simp (maxSteps := 1000000) only [VL,VM,↓VG,reduceIte,reduceCtorEq,zA,zB,zC,zD,zE,zF,zG,zH,zI,zJ]
      ((repeat refine Ws ?_);refine Wt (by first|rfl|simp only [EV,zF,reduceIte]) ?_)
      ((repeat refine Ws ?_);refine Wr ?_)
      simp (maxSteps := 1000000) only [VL,VM,↓VG,reduceIte,reduceCtorEq,zA,zB,zC,zD,zE,zF,zG,zH,zI,zJ]
      (repeat refine Ws ?_)
      refine W_ret ?_
      try simp only [thenQ, blockQ]
      refine own_ret1 rfl ?_ (by rfl)
      simp only [get_cons, frz, vtup, Nat.reduceEqDiff, if_true, if_false, reduceIte]
      rw [he]; rfl
     rw [g4, if_pos rfl] at e2
     rw [e2] at he
     simp (maxSteps := 1000000) only [VL,VM,↓VG,reduceIte,reduceCtorEq,zA,zB,zC,zD,zE,zF,zG,zH,zI,zJ]
     ((repeat refine Ws ?_);refine Wf (by first|rfl|simp only [EV,zF,reduceIte]) ?_)
     ((repeat refine Ws ?_);refine W_skip ?_)
     simp (maxSteps := 1000000) only [VL,VM,↓VG,reduceIte,reduceCtorEq,zA,zB,zC,zD,zE,zF,zG,zH,zI,zJ]
     ((repeat refine Ws ?_);refine Wr ?_)
     simp (maxSteps := 1000000) only [VL,VM,↓VG,reduceIte,reduceCtorEq,zA,zB,zC,zD,zE,zF,zG,zH,zI,zJ, k1]
     exact LoopK.mk (i + 1, _) (by simp; omega) ⟨by simp; omega, he⟩ ⟨rfl, rfl, rfl, rfl, rfl, trivial⟩ rfl
    ·rw [if_neg g2] at e2
     rw [e2] at he
     simp (maxSteps := 1000000) only [VL,VM,↓VG,reduceIte,reduceCtorEq,zA,zB,zC,zD,zE,zF,zG,zH,zI,zJ, g2]
     ((repeat refine Ws ?_);refine Wt (by first|rfl|simp only [EV,zF,reduceIte]) ?_)
     ((repeat refine Ws ?_);refine Wr ?_)
     simp (maxSteps := 1000000) only [VL,VM,↓VG,reduceIte,reduceCtorEq,zA,zB,zC,zD,zE,zF,zG,zH,zI,zJ]
     (repeat refine Ws ?_)
     refine W_ret ?_
     try simp only [thenQ, blockQ]
     refine own_ret1 rfl ?_ (by rfl)
     simp only [get_cons, frz, vtup, Nat.reduceEqDiff, if_true, if_false, reduceIte]
     rw [he]; rfl
   ·have k2 : ((i : Int) < (p.length : Int)) = False := eq_false (by omega)
    obtain rfl : i = p.length := by omega
    rw [List.drop_length, slsErr] at he
    ·simp (maxSteps := 1000000) only [VL,VM,↓VG,reduceIte,reduceCtorEq,zA,zB,zC,zD,zE,zF,zG,zH,zI,zJ, k2]
     ((repeat refine Ws ?_);refine Wf (by first|rfl|simp only [EV,zF,reduceIte]) ?_)
     ((repeat refine Ws ?_);refine W_exit ?_)
     simp (maxSteps := 1000000) only [VL,VM,↓VG,reduceIte,reduceCtorEq,zA,zB,zC,zD,zE,zF,zG,zH,zI,zJ]
     ((repeat refine Ws ?_);refine Wr ?_)
     simp (maxSteps := 1000000) only [VL,VM,↓VG,reduceIte,reduceCtorEq,zA,zB,zC,zD,zE,zF,zG,zH,zI,zJ]
     (repeat refine Ws ?_)
     refine W_ret ?_
     try simp only [thenQ, blockQ]
     refine own_ret1 rfl ?_ (by rfl)
     simp only [get_cons, frz, vtup, Nat.reduceEqDiff, if_true, if_false, reduceIte]
     rw [he]
    ·intro s ss c cs h1 h2; cases h1
  ·rw [if_neg h2] at e1
   have k : ((p.length : Int) = (y.carts.length : Int)) = False := eq_false (by omega)
   simp (maxSteps := 1000000) only [VL,VM,↓VG,reduceIte,reduceCtorEq,zA,zB,zC,zD,zE,zF,zG,zH,zI,zJ, k]
   ((repeat refine Ws ?_);refine Wt (by first|rfl|simp only [EV,zF,reduceIte]) ?_)
   ((repeat refine Ws ?_);refine Wr ?_)
   simp (maxSteps := 1000000) only [VL,VM,↓VG,reduceIte,reduceCtorEq,zA,zB,zC,zD,zE,zF,zG,zH,zI,zJ]
   (repeat refine Ws ?_)
   refine W_ret ?_
   try simp only [thenQ, blockQ]
   refine own_ret1 rfl ?_ (by rfl)
   simp only [get_cons, frz, vtup, Nat.reduceEqDiff, if_true, if_false, reduceIte]
   rw [e1]
 ·rw [if_neg h1] at e1
  simp (maxSteps := 1000000) only [VL,VM,↓VG,reduceIte,reduceCtorEq,zA,zB,zC,zD,zE,zF,zG,zH,zI,zJ, h1]
  ((repeat refine Ws ?_);refine Wt (by first|rfl|simp only [EV,zF,reduceIte]) ?_)
  ((repeat refine Ws ?_);refine Wr ?_)
  simp (maxSteps := 1000000) only [VL,VM,↓VG,reduceIte,reduceCtorEq,zA,zB,zC,zD,zE,zF,zG,zH,zI,zJ]
  (repeat refine Ws ?_)
  refine W_ret ?_
  try simp only [thenQ, blockQ]
  refine own_ret1 rfl ?_ (by rfl)
  simp only [get_cons, frz, vtup, Nat.reduceEqDiff, if_true, if_false, reduceIte]
  rw [e1]
end Go.Proofs.YtkipednlefbfpaaDoor.Vm

/- The reference's check of yards and plans, on values. (Vm) -/
namespace Go.Proofs.YtkipednlefbfpaaDoor.Vm
open Go Go.Proofs
end Go.Proofs.YtkipednlefbfpaaDoor.Vm

/- The reference's check of yards and plans, on values, part 2. (Vm) -/
namespace Go.Proofs.YtkipednlefbfpaaDoor.Vm
open Go Go.Proofs
end Go.Proofs.YtkipednlefbfpaaDoor.Vm

/- The reference's Held, on values. (Vm) -/
namespace Go.Proofs.YtkipednlefbfpaaDoor.Vm
open Go Go.Proofs
end Go.Proofs.YtkipednlefbfpaaDoor.Vm

/- The reference's Longest, Shortest, Holds, Away, on values. (Vm) -/
namespace Go.Proofs.YtkipednlefbfpaaDoor.Vm
open Go Go.Proofs
def holdsV (y : Ya) (p : List St) : Int × Int := if plErr y p = 0 then (if heldB y p (longest y) then (1, 0) else if heldB y p (shortest y) then (3, 0) else (2, 0)) else (0, plErr y p)
theorem own_ret2 {T : Tab} {f : Nat} {fn : Func} {M : Mem} {L : List VObj} {e : Env} {t t' : Nat} {X Y : VV} (h1 : fn.results.toList = [.tmp t, .tmp t']) (hr : frz M.H.length (M.H ++ L) (get e t) = X) (hr' : frz M.H.length (M.H ++ L) (get e t') = Y) (h2 : refs X = []) (h2' : refs Y = []) : ownQ T f fn M (fun r M' => M' = M ∧ r = .tup [X, Y]) .ret e ⟨M.H ++ L, M.lg⟩ [] :=
 own_ret (vs := [get e t, get e t']) (by rw [h1]; rfl) (by simp only [vtup, frz, frzL, hr, hr']) (by simp [refs, refsL, h2, h2']) ⟨rfl, rfl⟩
end Go.Proofs.YtkipednlefbfpaaDoor.Vm

/- Away, Last, Before, on values. (Vm) -/
namespace Go.Proofs.YtkipednlefbfpaaDoor.Vm
open Go Go.Proofs
theorem awayL_len (y : Ya) (p : List St) : (awayL y p).length = min p.length y.carts.length := by simp [awayL]
theorem awayL_take {y : Ya} {p : List St} {i : Nat} (h : i < p.length) (h' : i < y.carts.length) : (awayL y p).take (i + 1) = (awayL y p).take i ++ [⟨(stAt p i).from_ + (ctAt y i).takes.lo, (stAt p i).from_ + (ctAt y i).takes.hi⟩] := by
 rw [List.take_add_one]
 congr 1
 have hz : (p.zip y.carts)[i]? = some (p[i], y.carts[i]) := by simp [List.getElem?_zip_eq_some, h, h']
 simp [awayL, stAt, ctAt, h, h', hz]
def awayV (y : Ya) (p : List St) : VV := if plErr y p = 0 then .tup [spsV (awayL y p), vi 0] else .tup [spsV [], vi (plErr y p)]
theorem away_v (y : Ya) (p : List St) (M : Mem) (hn : y.ramps.length ≤ 1000000) (hm : y.carts.length ≤ 1000000) (hl : ∀ c ∈ y.carts, c.ramps.length ≤ 1000000) (hp : p.length ≤ 1000000) : VC Tryd.prog 11 [yardV y, stsV p] M (fun r M' => M' = M ∧ r = awayV y p) := by
 refine VC_own' T_ok (f := 11) (fn := Tryd.f11) (by kernel_rfl) rfl Tryd.ntmps11 (by rfl) (by rfl) ?_
 ((repeat refine Ws ?_);refine W_regionE T_ok ?_; intro Kn hKn)
 ((simp (maxSteps := 1000000) only [VL,VM,↓VG,reduceIte,reduceCtorEq,zA,zB,zC,zD,zE,zF,zG,zH,zI,zJ]); rw [hKn];clear hKn Kn;simp only [QV,reduceIte,reduceCtorEq,Nat.reduceEqDiff])
 ((repeat refine Ws ?_);refine W_regionE T_ok ?_; intro Kn hKn)
 simp (maxSteps := 1000000) only [VL,VM,↓VG,reduceIte,reduceCtorEq,zA,zB,zC,zD,zE,zF,zG,zH,zI,zJ]
 apply call_eq (f := 9) (fn := Tryd.f9) (by kernel_rfl) (by rfl)
 ·exact checkPlan_v y p _ hn hm hl hp
 ((simp (maxSteps := 1000000) only [VL,VM,↓VG,reduceIte,reduceCtorEq,zA,zB,zC,zD,zE,zF,zG,zH,zI,zJ]); rw [hKn];clear hKn Kn;simp only [QV,reduceIte,reduceCtorEq,Nat.reduceEqDiff])
 ((repeat refine Ws ?_);refine W_regionE T_ok ?_; intro Kn hKn)
 by_cases h1 : plErr y p = 0
 ·((simp (maxSteps := 1000000) only [VL,VM,↓VG,reduceIte,reduceCtorEq,zA,zB,zC,zD,zE,zF,zG,zH,zI,zJ, h1]); rw [hKn];clear hKn Kn;simp only [QV,reduceIte,reduceCtorEq,Nat.reduceEqDiff])
  ((repeat refine Ws ?_);refine Wf (by first|rfl|simp only [EV,zF,reduceIte]) ?_)
  (((repeat refine Ws ?_);refine W_skip ?_); simp only [QV,reduceIte,reduceCtorEq,Nat.reduceEqDiff])
  obtain ⟨hy, hpl⟩ := plErr_ok.1 h1
  have hlen := hpl.len
  have hc7 := hy.m1
  ((repeat refine Ws ?_);refine W_regionE T_ok ?_; intro Kn hKn)
  ((simp (maxSteps := 1000000) only [VL,VM,↓VG,reduceIte,reduceCtorEq,zA,zB,zC,zD,zE,zF,zG,zH,zI,zJ]); rw [hKn];clear hKn Kn;simp only [QV,reduceIte,reduceCtorEq,Nat.reduceEqDiff])
  (repeat refine Ws ?_)
  refine W_tok (t := 7) (k := 2) rfl ?_
  ((repeat refine Ws ?_);refine W_regionE T_ok ?_; intro Kn hKn)
  ((simp (maxSteps := 1000000) only [VL,VM,↓VG,reduceIte,reduceCtorEq,zA,zB,zC,zD,zE,zF,zG,zH,zI,zJ]); rw [hKn];clear hKn Kn;simp only [QV,reduceIte,reduceCtorEq,Nat.reduceEqDiff])
  ((repeat refine Ws ?_);refine W_block ?_; (repeat refine Ws ?_)); refine W_loopS (fun s : Nat × List VObj => [(2, .ptr M.H.length 0), (7, .so (M.H.length + 1) 2 (((awayL y p).take s.1).map spP)), (17, stsV p), (18, vi p.length), (19, vi s.1)]) (fun s => ⟨M.H ++ .obj (yardC y) :: .clm s.1 2 :: s.2, M.lg⟩) (fun s => p.length - s.1) (fun s => s.1 ≤ p.length) (0, []) (Nat.zero_le _) ⟨rfl, rfl, rfl, rfl, rfl, trivial⟩ rfl ?_
  rintro ⟨i, L⟩ hi
  simp only at hi
  have k1 : -9223372036854775808 ≤ (i : Int) + 1 ∧ (i : Int) + 1 < 9223372036854775808 := by omega
  ((repeat refine Ws ?_);refine W_regionE T_ok ?_; intro Kn hKn)
  rcases Nat.lt_or_ge i p.length with hlt | hge
  ·have k2 : ((i : Int) < (p.length : Int)) = True := eq_true (by omega)
   have hlt2 : i < y.carts.length := by omega
   have hx' := map_at (f := stP) (stAt_get hlt)
   have hy' := map_at (f := ctP) (ctAt_get hlt2)
   have hv := hy.ct _ (ctAt_mem hlt2)
   have f0 := hpl.f0 i hlt
   have f1 := hpl.f1 i hlt
   have l0 := hv.l0
   have l1 := hv.lh
   have l2 := hv.h1
   have q0 : ((awayL y p).take i).length = i := by rw [List.length_take, awayL_len]; omega
   have q1 : ((i + 1) * 16 ≤ 140737488355328) = True := eq_true (by omega)
   have q2 : -9223372036854775808 ≤ (stAt p i).from_ + (ctAt y i).takes.lo ∧ (stAt p i).from_ + (ctAt y i).takes.lo < 9223372036854775808 := by omega
   have q3 : -9223372036854775808 ≤ (stAt p i).from_ + (ctAt y i).takes.hi ∧ (stAt p i).from_ + (ctAt y i).takes.hi < 9223372036854775808 := by omega
   have key := awayL_take hlt hlt2
   generalize (awayL y p).take i = l at q0 key ⊢
   ((simp (maxSteps := 1000000) only [VL,VM,↓VG,reduceIte,reduceCtorEq,zA,zB,zC,zD,zE,zF,zG,zH,zI,zJ, k2]); rw [hKn];clear hKn Kn;simp only [QV,reduceIte,reduceCtorEq,Nat.reduceEqDiff])
   ((repeat refine Ws ?_);refine Wt (by first|rfl|simp only [EV,zF,reduceIte]) ?_)
   (((repeat refine Ws ?_);refine W_skip ?_); simp only [QV,reduceIte,reduceCtorEq,Nat.reduceEqDiff])
   ((repeat refine Ws ?_);refine W_block ?_)
   ((repeat refine Ws ?_);refine W_regionE T_ok ?_; intro Kn hKn)
   ((simp (maxSteps := 1000000) only [VL,VM,↓VG,reduceIte,reduceCtorEq,zA,zB,zC,zD,zE,zF,zG,zH,zI,zJ, hx']); rw [hKn];clear hKn Kn;simp only [QV,reduceIte,reduceCtorEq,Nat.reduceEqDiff])
   ((repeat refine Ws ?_);refine W_regionE T_ok ?_; intro Kn hKn)
   ((simp (maxSteps := 1000000) only [VL,VM,↓VG,reduceIte,reduceCtorEq,zA,zB,zC,zD,zE,zF,zG,zH,zI,zJ, hy']); rw [hKn];clear hKn Kn;simp only [QV,reduceIte,reduceCtorEq,Nat.reduceEqDiff])
   ((repeat refine Ws ?_);refine W_regionE T_ok ?_; intro Kn hKn)
   ((simp (maxSteps := 1000000) only [VL,VM,↓VG,reduceIte,reduceCtorEq,zA,zB,zC,zD,zE,zF,zG,zH,zI,zJ, q0, q1, q2, q3]); rw [hKn];clear hKn Kn;simp only [QV,reduceIte,reduceCtorEq,Nat.reduceEqDiff])
   ((repeat refine Ws ?_);refine W_regionE T_ok ?_; intro Kn hKn)
   ((simp (maxSteps := 1000000) only [VL,VM,↓VG,reduceIte,reduceCtorEq,zA,zB,zC,zD,zE,zF,zG,zH,zI,zJ, k1]); rw [hKn];clear hKn Kn;simp only [QV,reduceIte,reduceCtorEq,Nat.reduceEqDiff])
   refine LoopK.mk (i + 1, _) (by simp; omega) (by simp; omega) ⟨rfl, ?_, rfl, rfl, rfl, trivial⟩ rfl
   rw [key]; simp [get_cons]
  ·have k2 : ((i : Int) < (p.length : Int)) = False := eq_false (by omega)
   obtain rfl : i = p.length := by omega
   ((simp (maxSteps := 1000000) only [VL,VM,↓VG,reduceIte,reduceCtorEq,zA,zB,zC,zD,zE,zF,zG,zH,zI,zJ, k2]); rw [hKn];clear hKn Kn;simp only [QV,reduceIte,reduceCtorEq,Nat.reduceEqDiff])
   ((repeat refine Ws ?_);refine Wf (by first|rfl|simp only [EV,zF,reduceIte]) ?_)
   (((repeat refine Ws ?_);refine W_exit ?_); simp only [QV,reduceIte,reduceCtorEq,Nat.reduceEqDiff])
   ((repeat refine Ws ?_);refine W_regionE T_ok ?_; intro Kn hKn)
   ((simp (maxSteps := 1000000) only [VL,VM,↓VG,reduceIte,reduceCtorEq,zA,zB,zC,zD,zE,zF,zG,zH,zI,zJ]); rw [hKn];clear hKn Kn;simp only [QV,reduceIte,reduceCtorEq,Nat.reduceEqDiff])
   rw [show awayV y p = .tup [spsV (awayL y p), vi 0] by rw [awayV, if_pos h1]]
   (repeat refine Ws ?_)
   refine W_ret ?_
   try simp only [thenQ, blockQ]
   refine own_ret2 rfl ?_ ?_ (by rfl) (by rfl)
   simp only [get_cons, frz, vtup, Nat.reduceEqDiff, if_true, if_false, reduceIte]
   ·rw [List.take_of_length_le (by rw [awayL_len]; omega)]
   ·simp [get_cons, frz]
 ·((simp (maxSteps := 1000000) only [VL,VM,↓VG,reduceIte,reduceCtorEq,zA,zB,zC,zD,zE,zF,zG,zH,zI,zJ, h1]); rw [hKn];clear hKn Kn;simp only [QV,reduceIte,reduceCtorEq,Nat.reduceEqDiff])
  ((repeat refine Ws ?_);refine Wt (by first|rfl|simp only [EV,zF,reduceIte]) ?_)
  ((repeat refine Ws ?_);refine W_regionE T_ok ?_; intro Kn hKn)
  ((simp (maxSteps := 1000000) only [VL,VM,↓VG,reduceIte,reduceCtorEq,zA,zB,zC,zD,zE,zF,zG,zH,zI,zJ]); rw [hKn];clear hKn Kn;simp only [QV,reduceIte,reduceCtorEq,Nat.reduceEqDiff])
  (repeat refine Ws ?_)
  refine W_nil (t := 4) (k := 2) rfl ?_
  rw [show awayV y p = .tup [spsV [], vi (plErr y p)] by rw [awayV, if_neg h1]]
  (repeat refine Ws ?_)
  refine W_ret ?_
  try simp only [thenQ, blockQ]
  refine own_ret2 rfl ?_ ?_ (by rfl) (by rfl)
  simp only [get_cons, frz, vtup, Nat.reduceEqDiff, if_true, if_false, reduceIte]
  ·rfl
  ·simp [get_cons, frz]
end Go.Proofs.YtkipednlefbfpaaDoor.Vm

/- Last, Before, on values. (Vm) -/
namespace Go.Proofs.YtkipednlefbfpaaDoor.Vm
open Go Go.Proofs
end Go.Proofs.YtkipednlefbfpaaDoor.Vm
