/- A part of the proofs about the chapter of the ramps; it states no condition of its own. -/
import Derived.Test.YtmiiipdgbkipjaaGreatDoorB15
import Derived.Test.YtmiiipdgbkipjaaGreatDoorB18
set_option linter.unusedVariables false
set_option linter.unusedSimpArgs false
/- The reference's search for the best plan, plain. -/
namespace Go.Proofs.YtmiiipdgbkipjaaGreatDoor
def better (y : Ya) (best : Option (List St)) (x : List St) : Option (List St) :=
 match best with
 | none => some x
 | some b => if lastV y x < lastV y b then some x else if lastV y x = lastV y b then (if beforeB x b then some x else some b) else some b
def candF (y : Ya) (free : List Int) (i : Nat) (r : Int) : Int := max (ctAt y i).from_ (max (raAt y r).open_ (tkAt free r.toNat))
def servC (y : Ya) (plan : List St) (free : List Int) (i : Nat) (r : Int) : Option (List St × List Int) :=
 if (raAt y r).bears < (ctAt y i).grams then none else if (ctAt y i).until_ < candF y free i r + (ctAt y i).takes.hi then none else if (raAt y r).shut < candF y free i r + (ctAt y i).takes.hi then none
 else some (plan.set i ⟨r, candF y free i r⟩, free.set r.toNat (candF y free i r + (ctAt y i).takes.hi + y.sweep))
def stepK (y : Ya) (S : List St → List Int → Option (List St)) (plan : List St) (free : List Int) (i : Nat) (best : Option (List St)) (r : Int) : Option (List St) :=
 match servC y plan free i r with
 | none => best
 | some q => match S q.1 q.2 with
  | none => best
  | some x => better y best x
def stepI (y : Ya) (S : List St → List Int → Option (List St)) (plan : List St) (free : List Int) (best : Option (List St)) (i : Nat) : Option (List St) :=
 if 0 ≤ (stAt plan i).ramp then best else (ctAt y i).ramps.foldl (stepK y S plan free i) best
def placed (s : St) : Bool := decide (0 ≤ s.ramp)
def servR (y : Ya) : Nat → List St → List Int → Option (List St)
 | 0, plan, _ => some plan
 | n + 1, plan, free => if plan.all placed then some plan else (List.range plan.length).foldl (stepI y (servR y n) plan free) none
def un (plan : List St) : Nat := plan.countP fun s => !placed s
structure SvOk (y : Ya) (plan : List St) (free : List Int) : Prop where
 len : plan.length = y.carts.length
 fl : free.length = y.ramps.length
 f : ∀ i, i < plan.length → 0 ≤ (stAt plan i).from_ ∧ (stAt plan i).from_ ≤ 480
 fr : ∀ r, r < free.length → 0 ≤ tkAt free r ∧ tkAt free r ≤ 960
theorem stAt_set {l : List St} {i j : Nat} {s : St} (h : i < l.length) : stAt (l.set i s) j = if i = j then s else stAt l j := by
 unfold stAt
 rw [List.getD_eq_getElem?_getD, List.getD_eq_getElem?_getD, List.getElem?_set]
 by_cases hij : i = j
 ·subst hij; simp [h]
 ·simp [hij]
theorem tkAt_set {l : List Int} {i j : Nat} {s : Int} (h : i < l.length) : tkAt (l.set i s) j = if i = j then s else tkAt l j := by
 unfold tkAt
 rw [List.getD_eq_getElem?_getD, List.getD_eq_getElem?_getD, List.getElem?_set]
 by_cases hij : i = j
 ·subst hij; simp [h]
 ·simp [hij]
theorem candF_bd {y : Ya} {free : List Int} {i : Nat} {r : Int} (hy : YaV y) (hi : i < y.carts.length) (h0 : 0 ≤ r) (h1 : r < y.ramps.length) (hf : 0 ≤ tkAt free r.toNat ∧ tkAt free r.toNat ≤ 960) : 0 ≤ candF y free i r ∧ candF y free i r ≤ 960 := by
 have c := hy.ct _ (ctAt_mem hi)
 have k := hy.ra _ (raAt_mem h0 h1)
 have := c.f0
 have := c.fu
 have := c.u1
 have := k.o0
 have := k.os
 have := k.s1
 unfold candF
 omega
theorem servC_ok {y : Ya} {plan : List St} {free : List Int} {i : Nat} {r : Int} {q : List St × List Int} (hy : YaV y) (h : SvOk y plan free) (hi : i < plan.length) (h0 : 0 ≤ r) (h1 : r < y.ramps.length) (hq : servC y plan free i r = some q) : SvOk y q.1 q.2 := by
 have hl := h.len
 have hfl := h.fl
 have hc := candF_bd (free := free) (i := i) (r := r) hy (by omega) h0 h1 (h.fr _ (by omega))
 have c := hy.ct _ (ctAt_mem (y := y) (i := i) (by omega))
 have := c.u1
 have := c.l0
 have := c.lh
 have := c.h1
 have := hy.s0
 have := hy.s1
 unfold servC at hq
 split at hq
 ·cases hq
 ·split at hq
  ·cases hq
  ·split at hq
   ·cases hq
   ·cases hq
    refine ⟨by simpa using hl, by simpa using hfl, fun j hj => ?_, fun k hk => ?_⟩
    ·rw [stAt_set hi]
     by_cases hij : i = j
     ·rw [if_pos hij]; simp only; omega
     ·rw [if_neg hij]; exact h.f j (by simpa using hj)
    ·rw [tkAt_set (by omega)]
     by_cases hij : r.toNat = k
     ·rw [if_pos hij]; omega
     ·rw [if_neg hij]; exact h.fr k (by simpa using hk)
theorem un_set : ∀ {l : List St} {i : Nat} {s : St}, i < l.length → ¬ 0 ≤ (stAt l i).ramp → 0 ≤ s.ramp → un (l.set i s) + 1 = un l
 | x :: l, 0, s, _, h1, h2 => by
  simp only [stAt, List.getD_cons_zero] at h1
  have a1 : placed x = false := by simp [placed]; omega
  have a2 : placed s = true := by simp [placed]; omega
  simp [un, a1, a2]
 | x :: l, i + 1, s, h, h1, h2 => by
  have ih := un_set (l := l) (i := i) (s := s) (by simpa using h) (by simpa [stAt] using h1) h2
  simp only [un, List.set_cons_succ, List.countP_cons] at ih ⊢
  omega
theorem servC_un {y : Ya} {plan : List St} {free : List Int} {i : Nat} {r : Int} {q : List St × List Int} (hi : i < plan.length) (h0 : 0 ≤ r) (hu : ¬ 0 ≤ (stAt plan i).ramp) (hq : servC y plan free i r = some q) : un q.1 + 1 = un plan := by
 unfold servC at hq
 split at hq
 ·cases hq
 ·split at hq
  ·cases hq
  ·split at hq
   ·cases hq
   ·cases hq
    exact un_set hi hu h0
theorem all_un {plan : List St} (h : un plan = 0) : plan.all placed = true := by
 unfold un at h
 rw [List.countP_eq_zero] at h
 rw [List.all_eq_true]
 intro s hs
 simpa using h s hs
theorem better_some {y : Ya} {best : Option (List St)} {x b : List St} (h : better y best x = some b) : b = x ∨ best = some b := by
 unfold better at h
 cases best with
 | none => cases h; exact .inl rfl
 | some c =>
  simp only at h
  split at h
  ·cases h; exact .inl rfl
  ·split at h
   ·split at h
    ·cases h; exact .inl rfl
    ·cases h; exact .inr rfl
   ·cases h; exact .inr rfl
theorem fold_inv {α β : Type} {p : β → Prop} {f : β → α → β} : ∀ {l : List α} {b : β}, p b → (∀ a ∈ l, ∀ b, p b → p (f b a)) → p (l.foldl f b)
 | [], _, h, _ => h
 | a :: l, b, h, hf => fold_inv (l := l) (hf a (by simp) b h) fun c hc => hf c (by simp [hc])
end Go.Proofs.YtmiiipdgbkipjaaGreatDoor

/- Choices of carts, and the reference's answers, plain. -/
namespace Go.Proofs.YtmiiipdgbkipjaaGreatDoor
def choices (n : Nat) : Nat → Nat → List (List Int)
 | 0, _ => [[]]
 | m + 1, first => (List.range' first (n - first)).flatMap fun i => (choices n m (i + 1)).map fun l => (i : Int) :: l
def onlyY (y : Ya) (l : List Int) : Ya := { y with carts := l.map fun k => ctAt y k.toNat }
def servedR (y : Ya) : Option (List St) := servR y y.carts.length (List.replicate y.carts.length ⟨-1, 0⟩) (List.replicate y.ramps.length 0)
def serveT (y : Ya) : List St × Int × Int := if yErr y = 0 then (match servedR y with
 | none => ([], 0, 3)
 | some p => (p, lastV y p, 0)) else ([], 0, yErr y)
def stuckL (y : Ya) : List (List Int) := (List.range' 1 y.carts.length).flatMap fun m => choices y.carts.length m 0
def mostL (y : Ya) : List (List Int) := (List.range y.carts.length).flatMap fun j => choices y.carts.length (y.carts.length - j) 0
def canB (y : Ya) (l : List Int) : Bool := (servedR (onlyY y l)).isSome
def stuckT (y : Ya) : List Int × Int := if yErr y = 0 then (match (stuckL y).find? (fun l => !canB y l) with
 | none => ([], 3)
 | some l => (l, 0)) else ([], yErr y)
def mostT (y : Ya) : List Int × Int := if yErr y = 0 then (match (mostL y).find? (canB y) with
 | none => ([], 0)
 | some l => (l, 0)) else ([], yErr y)
theorem onlyY_ok {y : Ya} {l : List Int} (h : YaV y) (hl : l.length ≤ 7) (hm : ∀ x ∈ l, 0 ≤ x ∧ x < y.carts.length) : YaV (onlyY y l) := by
 refine ⟨h.n0, h.n1, h.ra, by simpa [onlyY] using hl, fun c hc => ?_, h.s0, h.s1⟩
 obtain ⟨k, hk, rfl⟩ := List.mem_map.1 hc
 have := hm k hk
 exact h.ct _ (ctAt_mem (by omega))
end Go.Proofs.YtmiiipdgbkipjaaGreatDoor

/- Plans that serve all carts, and the best of them, plain. -/
namespace Go.Proofs.YtmiiipdgbkipjaaGreatDoor
/-! ### an order of plans -/
theorem slt_irr (a : St) : sltB a a = false := by simp [sltB]
theorem beforeB_irr : ∀ a : List St, beforeB a a = false
 | [] => by rw [beforeB]; intro x z u v h; cases h
 | x :: a => by rw [beforeB, if_pos rfl]; exact beforeB_irr a
theorem beforeB_nil (b : List St) : beforeB [] b = false := by rw [beforeB]; intro x z u v h; cases h
theorem sltB_true {a b : St} : sltB a b = true ↔ a.ramp < b.ramp ∨ (a.ramp = b.ramp ∧ a.from_ < b.from_) := by simp [sltB]
theorem beforeB_trans : ∀ {a b c : List St}, a.length = b.length → b.length = c.length → beforeB a b = true → beforeB b c = true → beforeB a c = true
 | [], _, _, _, _, h, _ => by rw [beforeB_nil] at h; cases h
 | x :: a, [], _, h, _, _, _ => by simp at h
 | x :: a, y :: b, [], _, h, _, _ => by simp at h
 | x :: a, y :: b, z :: c, h1, h2, h3, h4 => by
  rw [beforeB] at h3 h4 ⊢
  by_cases e1 : x = y
  ·subst e1
   rw [if_pos rfl] at h3
   by_cases e2 : x = z
   ·subst e2
    rw [if_pos rfl] at h4 ⊢
    exact beforeB_trans (by simpa using h1) (by simpa using h2) h3 h4
   ·rw [if_neg e2] at h4 ⊢; exact h4
  ·rw [if_neg e1] at h3
   by_cases e2 : y = z
   ·subst e2
    rw [if_neg e1]; exact h3
   ·rw [if_neg e2] at h4
    rw [sltB_true] at h3 h4
    by_cases e3 : x = z
    ·subst e3
     omega
    ·rw [if_neg e3, sltB_true]; omega
theorem beforeB_total : ∀ {a b : List St}, a.length = b.length → beforeB a b = false → beforeB b a = false → a = b
 | [], [], _, _, _ => rfl
 | [], y :: b, h, _, _ => by simp at h
 | x :: a, [], h, _, _ => by simp at h
 | x :: a, y :: b, h, h1, h2 => by
  rw [beforeB] at h1 h2
  by_cases e : x = y
  ·subst e
   rw [if_pos rfl] at h1 h2
   rw [beforeB_total (by simpa using h) h1 h2]
  ·rw [if_neg e] at h1
   rw [if_neg (fun h => e h.symm)] at h2
   have h3 : ¬ (x.ramp < y.ramp ∨ (x.ramp = y.ramp ∧ x.from_ < y.from_)) := fun h => by rw [sltB_true.2 h] at h1; cases h1
   have h4 : ¬ (y.ramp < x.ramp ∨ (y.ramp = x.ramp ∧ y.from_ < x.from_)) := fun h => by rw [sltB_true.2 h] at h2; cases h2
   exfalso
   apply e
   cases x; cases y
   simp only [St.mk.injEq]
   simp only at h3 h4
   omega
theorem beforeB_asym {a b : List St} (hl : a.length = b.length) (h : beforeB a b = true) : beforeB b a = false := by
 cases h2 : beforeB b a with
 | false => rfl
 | true =>
  have := beforeB_trans hl hl.symm h h2
  rw [beforeB_irr] at this
  cases this
theorem beforeB_set : ∀ {q : List St} {i : Nat} {s : St}, i < q.length → sltB (stAt q i) s = false → beforeB q (q.set i s) = false
 | x :: q, 0, s, _, h => by
  rw [List.set_cons_zero, beforeB]
  by_cases e : x = s
  ·rw [if_pos e]; exact beforeB_irr q
  ·rw [if_neg e]; exact h
 | x :: q, i + 1, s, h, h2 => by
  rw [List.set_cons_succ, beforeB, if_pos rfl]
  exact beforeB_set (by simpa using h) (by simpa [stAt] using h2)
def leP (y : Ya) (a b : List St) : Prop := lastV y a < lastV y b ∨ (lastV y a = lastV y b ∧ beforeB b a = false)
theorem leP_refl (y : Ya) (a : List St) : leP y a a := .inr ⟨rfl, beforeB_irr a⟩
theorem leP_trans {y : Ya} {a b c : List St} (h1 : a.length = b.length) (h2 : b.length = c.length) (h3 : leP y a b) (h4 : leP y b c) : leP y a c := by
 rcases h3 with h3 | ⟨h3, h5⟩
 ·rcases h4 with h4 | ⟨h4, _⟩
  ·exact .inl (by omega)
  ·exact .inl (by omega)
 ·rcases h4 with h4 | ⟨h4, h6⟩
  ·exact .inl (by omega)
  ·refine .inr ⟨by omega, ?_⟩
   cases hca : beforeB c a with
   | false => rfl
   | true =>
    by_cases hab : a = b
    ·subst hab; rw [h6] at hca; cases hca
    ·cases hab2 : beforeB a b with
     | false => exact absurd (beforeB_total h1 hab2 h5) hab
     | true =>
      have := beforeB_trans (h2.symm.trans h1.symm) h1 hca hab2
      rw [h6] at this; cases this
theorem better_le {y : Ya} {best : Option (List St)} {x : List St} (hb : ∀ b, best = some b → b.length = x.length) : ∃ z, better y best x = some z ∧ leP y z x ∧ ∀ b, best = some b → leP y z b := by
 unfold better
 cases best with
 | none => exact ⟨x, rfl, leP_refl y x, fun b h => by cases h⟩
 | some b =>
  have hl := hb b rfl
  simp only
  split
  ·rename_i h
   exact ⟨x, rfl, leP_refl y x, fun c hc => by cases hc; exact .inl h⟩
  ·rename_i h
   split
   ·rename_i h2
    cases h3 : beforeB x b with
    | true =>
     rw [if_pos rfl]
     exact ⟨x, rfl, leP_refl y x, fun c hc => by cases hc; exact .inr ⟨h2, beforeB_asym hl.symm h3⟩⟩
    | false =>
     rw [if_neg (by decide)]
     exact ⟨b, rfl, .inr ⟨h2.symm, h3⟩, fun c hc => by cases hc; exact leP_refl y b⟩
   ·rename_i h2
    exact ⟨b, rfl, .inl (by omega), fun c hc => by cases hc; exact leP_refl y b⟩
/-! ### what goes on from a plan -/
structure Ext (y : Ya) (plan : List St) (free : List Int) (q : List St) : Prop where
 len : q.length = plan.length
 old : ∀ i, i < plan.length → 0 ≤ (stAt plan i).ramp → stAt q i = stAt plan i
 r : ∀ i, i < plan.length → ¬ 0 ≤ (stAt plan i).ramp → (stAt q i).ramp ∈ (ctAt y i).ramps
 br : ∀ i, i < plan.length → ¬ 0 ≤ (stAt plan i).ramp → (ctAt y i).grams ≤ (raAt y (stAt q i).ramp).bears
 f1 : ∀ i, i < plan.length → ¬ 0 ≤ (stAt plan i).ramp → (ctAt y i).from_ ≤ (stAt q i).from_
 f2 : ∀ i, i < plan.length → ¬ 0 ≤ (stAt plan i).ramp → (raAt y (stAt q i).ramp).open_ ≤ (stAt q i).from_
 f3 : ∀ i, i < plan.length → ¬ 0 ≤ (stAt plan i).ramp → (stAt q i).from_ + (ctAt y i).takes.hi ≤ (ctAt y i).until_
 f4 : ∀ i, i < plan.length → ¬ 0 ≤ (stAt plan i).ramp → (stAt q i).from_ + (ctAt y i).takes.hi ≤ (raAt y (stAt q i).ramp).shut
 fr : ∀ i, i < plan.length → ¬ 0 ≤ (stAt plan i).ramp → tkAt free (stAt q i).ramp.toNat ≤ (stAt q i).from_
 sep : ∀ i k, i < plan.length → k < plan.length → i ≠ k → ¬ 0 ≤ (stAt plan i).ramp → ¬ 0 ≤ (stAt plan k).ramp → (stAt q i).ramp = (stAt q k).ramp →
  (stAt q i).from_ + (ctAt y i).takes.hi + y.sweep ≤ (stAt q k).from_ ∨ (stAt q k).from_ + (ctAt y k).takes.hi + y.sweep ≤ (stAt q i).from_
theorem st_ext {a b : List St} (hl : a.length = b.length) (h : ∀ i, i < a.length → stAt a i = stAt b i) : a = b := by
 apply List.ext_getElem hl
 intro i h1 h2
 have := h i h1
 simpa [stAt, h1, h2] using this
theorem Ext.all {y : Ya} {plan : List St} {free : List Int} {q : List St} (h : Ext y plan free q) (hp : plan.all placed = true) : q = plan := by
 refine st_ext h.len fun i hi => h.old i (by rw [← h.len]; exact hi) ?_
 have := List.all_eq_true.1 hp _ (stAt_mem (by rw [← h.len]; exact hi))
 exact of_decide_eq_true this
theorem ext_all {y : Ya} {plan : List St} {free : List Int} (hp : plan.all placed = true) : Ext y plan free plan := by
 have key : ∀ i, i < plan.length → 0 ≤ (stAt plan i).ramp := fun i hi => of_decide_eq_true (List.all_eq_true.1 hp _ (stAt_mem hi))
 exact ⟨rfl, fun _ _ _ => rfl, fun i hi h => absurd (key i hi) h, fun i hi h => absurd (key i hi) h, fun i hi h => absurd (key i hi) h, fun i hi h => absurd (key i hi) h, fun i hi h => absurd (key i hi) h, fun i hi h => absurd (key i hi) h, fun i hi h => absurd (key i hi) h, fun i k hi _ _ h => absurd (key i hi) h⟩
theorem servC_some {y : Ya} {plan : List St} {free : List Int} {i : Nat} {r : Int} {q : List St × List Int} (h : servC y plan free i r = some q) :
  (ctAt y i).grams ≤ (raAt y r).bears ∧ candF y free i r + (ctAt y i).takes.hi ≤ (ctAt y i).until_ ∧ candF y free i r + (ctAt y i).takes.hi ≤ (raAt y r).shut ∧ q = (plan.set i ⟨r, candF y free i r⟩, free.set r.toNat (candF y free i r + (ctAt y i).takes.hi + y.sweep)) := by
 unfold servC at h
 split at h
 ·cases h
 ·split at h
  ·cases h
  ·split at h
   ·cases h
   ·cases h
    exact ⟨by omega, by omega, by omega, rfl⟩
theorem candF_le (y : Ya) (free : List Int) (i : Nat) (r : Int) : (ctAt y i).from_ ≤ candF y free i r ∧ (raAt y r).open_ ≤ candF y free i r ∧ tkAt free r.toNat ≤ candF y free i r := by
 unfold candF; omega
theorem ext_back {y : Ya} {plan : List St} {free : List Int} {i : Nat} {r : Int} {q : List St × List Int} {x : List St} (hy : YaV y) (h : SvOk y plan free) (hi : i < plan.length) (hu : ¬ 0 ≤ (stAt plan i).ramp) (hr : r ∈ (ctAt y i).ramps)
  (hq : servC y plan free i r = some q) (hx : Ext y q.1 q.2 x) : Ext y plan free x := by
 have hl := h.len
 have hfl := h.fl
 have c := hy.ct _ (ctAt_mem (y := y) (i := i) (by omega))
 obtain ⟨hr0, hr1⟩ := c.r r hr
 have hl0 := c.l0
 have hlh := c.lh
 have hs0 := hy.s0
 obtain ⟨a1, a2, a3, rfl⟩ := servC_some hq
 obtain ⟨b1, b2, b3⟩ := candF_le y free i r
 generalize hA : candF y free i r = A at *
 simp only at hx
 have hpi : stAt (plan.set i ⟨r, A⟩) i = ⟨r, A⟩ := by rw [stAt_set hi, if_pos rfl]
 have hpk : ∀ k, k ≠ i → stAt (plan.set i ⟨r, A⟩) k = stAt plan k := fun k hk => by rw [stAt_set hi, if_neg (fun e => hk e.symm)]
 have hxi : stAt x i = ⟨r, A⟩ := by
  rw [hx.old i (by simpa using hi) (by rw [hpi]; exact hr0), hpi]
 have hfree : ∀ z : Int, tkAt free z.toNat ≤ tkAt (free.set r.toNat (A + (ctAt y i).takes.hi + y.sweep)) z.toNat := fun z => by
  rw [tkAt_set (by omega)]
  by_cases e : r.toNat = z.toNat
  ·rw [if_pos e, ← e]; omega
  ·rw [if_neg e]; exact Int.le_refl _
 have hlen : (plan.set i ⟨r, A⟩).length = plan.length := by simp
 refine ⟨by rw [hx.len, hlen], fun k hk h0 => ?_, fun k hk h0 => ?_, fun k hk h0 => ?_, fun k hk h0 => ?_, fun k hk h0 => ?_, fun k hk h0 => ?_, fun k hk h0 => ?_, fun k hk h0 => ?_, fun j k hj hk hne h0 h1 hre => ?_⟩
 ·by_cases hki : k = i
  ·subst hki; exact absurd h0 hu
  ·rw [hx.old k (by rw [hlen]; exact hk) (by rw [hpk k hki]; exact h0), hpk k hki]
 ·by_cases hki : k = i
  ·subst hki; rw [hxi]; exact hr
  ·exact hx.r k (by rw [hlen]; exact hk) (by rw [hpk k hki]; exact h0)
 ·by_cases hki : k = i
  ·subst hki; rw [hxi]; exact a1
  ·exact hx.br k (by rw [hlen]; exact hk) (by rw [hpk k hki]; exact h0)
 ·by_cases hki : k = i
  ·subst hki; rw [hxi]; exact b1
  ·exact hx.f1 k (by rw [hlen]; exact hk) (by rw [hpk k hki]; exact h0)
 ·by_cases hki : k = i
  ·subst hki; rw [hxi]; exact b2
  ·exact hx.f2 k (by rw [hlen]; exact hk) (by rw [hpk k hki]; exact h0)
 ·by_cases hki : k = i
  ·subst hki; rw [hxi]; exact a2
  ·exact hx.f3 k (by rw [hlen]; exact hk) (by rw [hpk k hki]; exact h0)
 ·by_cases hki : k = i
  ·subst hki; rw [hxi]; exact a3
  ·exact hx.f4 k (by rw [hlen]; exact hk) (by rw [hpk k hki]; exact h0)
 ·by_cases hki : k = i
  ·subst hki; rw [hxi]; exact b3
  ·exact Int.le_trans (hfree _) (hx.fr k (by rw [hlen]; exact hk) (by rw [hpk k hki]; exact h0))
 ·by_cases hji : j = i
  ·subst hji
   have hki : k ≠ j := fun e => hne e.symm
   have := hx.fr k (by rw [hlen]; exact hk) (by rw [hpk k hki]; exact h1)
   rw [← hre, hxi, tkAt_set (by omega), if_pos rfl] at this
   rw [hxi]
   exact .inl this
  ·by_cases hki : k = i
   ·subst hki
    have := hx.fr j (by rw [hlen]; exact hj) (by rw [hpk j hji]; exact h0)
    rw [hre, hxi, tkAt_set (by omega), if_pos rfl] at this
    rw [hxi]
    exact .inr this
   ·exact hx.sep j k (by rw [hlen]; exact hj) (by rw [hlen]; exact hk) hne (by rw [hpk j hji]; exact h0) (by rw [hpk k hki]; exact h1) hre
end Go.Proofs.YtmiiipdgbkipjaaGreatDoor

/- The best plan is found, plain. -/
namespace Go.Proofs.YtmiiipdgbkipjaaGreatDoor
theorem lastV_le {y : Ya} {p : List St} {m : Int} : lastV y p ≤ m ↔ 0 ≤ m ∧ ∀ i, i < p.length → i < y.carts.length → (stAt p i).from_ + (ctAt y i).takes.hi ≤ m := by
 have key : ∀ (l : List Sp) (b : Int), (l.foldl (fun m s => max m s.hi) b) ≤ m ↔ b ≤ m ∧ ∀ s ∈ l, s.hi ≤ m := by
  intro l
  induction l with
  | nil => intro b; simp
  | cons s l ih =>
   intro b
   rw [List.foldl_cons, ih]
   constructor
   ·intro ⟨h1, h2⟩
    exact ⟨by omega, fun t ht => by
     rcases List.mem_cons.1 ht with rfl | ht
     ·omega
     ·exact h2 t ht⟩
   ·intro ⟨h1, h2⟩
    have := h2 s (by simp)
    exact ⟨by omega, fun t ht => h2 t (by simp [ht])⟩
 unfold lastV
 rw [key]
 constructor
 ·intro ⟨h1, h2⟩
  refine ⟨h1, fun i hi hi2 => ?_⟩
  have hm : (⟨(stAt p i).from_ + (ctAt y i).takes.lo, (stAt p i).from_ + (ctAt y i).takes.hi⟩ : Sp) ∈ awayL y p := by
   refine List.mem_map.2 ⟨(stAt p i, ctAt y i), ?_, rfl⟩
   refine List.mem_of_getElem? (i := i) ?_
   rw [List.getElem?_zip_eq_some]
   exact ⟨stAt_get hi, ctAt_get hi2⟩
  exact h2 _ hm
 ·intro ⟨h1, h2⟩
  refine ⟨h1, fun s hs => ?_⟩
  obtain ⟨⟨a, b⟩, hab, rfl⟩ := List.mem_map.1 hs
  obtain ⟨i, hi⟩ := List.getElem?_of_mem hab
  rw [List.getElem?_zip_eq_some] at hi
  obtain ⟨h3, h4⟩ := hi
  have hi1 := (List.getElem?_eq_some_iff.1 h3).1
  have hi2 := (List.getElem?_eq_some_iff.1 h4).1
  have := h2 i hi1 hi2
  rw [stAt_get hi1] at h3
  rw [ctAt_get hi2] at h4
  cases h3; cases h4
  exact this
theorem lastV_nn (y : Ya) (p : List St) : 0 ≤ lastV y p := (lastV_le.1 (Int.le_refl _)).1
theorem lastV_at {y : Ya} {p : List St} {i : Nat} (hi : i < p.length) (hi2 : i < y.carts.length) : (stAt p i).from_ + (ctAt y i).takes.hi ≤ lastV y p := (lastV_le.1 (Int.le_refl _)).2 i hi hi2
theorem first_un {plan q : List St} : un plan ≠ 0 → ∃ i, i < plan.length ∧ ¬ 0 ≤ (stAt plan i).ramp ∧ ∀ k, k < plan.length → ¬ 0 ≤ (stAt plan k).ramp → (stAt q i).from_ ≤ (stAt q k).from_ := by
 intro h
 have hex : ∃ i, i < plan.length ∧ ¬ 0 ≤ (stAt plan i).ramp := by
  have h2 : 0 < un plan := by omega
  unfold un at h2
  rw [List.countP_pos_iff] at h2
  obtain ⟨s, hs, hp⟩ := h2
  obtain ⟨i, hi⟩ := List.getElem?_of_mem hs
  have hlt := (List.getElem?_eq_some_iff.1 hi).1
  rw [stAt_get hlt] at hi
  cases hi
  refine ⟨i, hlt, fun h0 => ?_⟩
  rw [placed, decide_eq_true h0] at hp
  cases hp
 have key : ∀ n, n ≤ plan.length → (∃ i, i < n ∧ ¬ 0 ≤ (stAt plan i).ramp) → ∃ i, i < n ∧ ¬ 0 ≤ (stAt plan i).ramp ∧ ∀ k, k < n → ¬ 0 ≤ (stAt plan k).ramp → (stAt q i).from_ ≤ (stAt q k).from_ := by
  intro n
  induction n with
  | zero => intro _ ⟨i, hi, _⟩; omega
  | succ n ih =>
   intro hn ⟨i, hi, hp⟩
   by_cases hl : ∃ i, i < n ∧ ¬ 0 ≤ (stAt plan i).ramp
   ·obtain ⟨j, hj, hjp, hjm⟩ := ih (by omega) hl
    by_cases hcmp : ¬ 0 ≤ (stAt plan n).ramp ∧ (stAt q n).from_ < (stAt q j).from_
    ·refine ⟨n, by omega, hcmp.1, fun k hk hkp => ?_⟩
     rcases Nat.lt_or_ge k n with h1 | h1
     ·have := hjm k h1 hkp; omega
     ·rw [show k = n by omega]; exact Int.le_refl _
    ·refine ⟨j, by omega, hjp, fun k hk hkp => ?_⟩
     rcases Nat.lt_or_ge k n with h1 | h1
     ·exact hjm k h1 hkp
     ·rw [show k = n by omega] at hkp ⊢
      have : ¬ (stAt q n).from_ < (stAt q j).from_ := fun h => hcmp ⟨hkp, h⟩
      omega
   ·have hin : i = n := by
     rcases Nat.lt_or_ge i n with h1 | h1
     ·exact absurd ⟨i, h1, hp⟩ hl
     ·omega
    subst hin
    refine ⟨i, by omega, hp, fun k hk hkp => ?_⟩
    rcases Nat.lt_or_ge k i with h1 | h1
    ·exact absurd ⟨k, h1, hkp⟩ hl
    ·rw [show k = i by omega]; exact Int.le_refl _
 exact key plan.length (Nat.le_refl _) hex
theorem ext_step {y : Ya} {plan : List St} {free : List Int} {q : List St} (hy : YaV y) (h : SvOk y plan free) (hx : Ext y plan free q) (hu : un plan ≠ 0) :
  ∃ i r p, i < plan.length ∧ ¬ 0 ≤ (stAt plan i).ramp ∧ r ∈ (ctAt y i).ramps ∧ servC y plan free i r = some p ∧ ∃ q', Ext y p.1 p.2 q' ∧ leP y q' q := by
 obtain ⟨i, hi, hup, hmin⟩ := first_un (q := q) hu
 have hl := h.len
 have hfl := h.fl
 have hql := hx.len
 have c := hy.ct _ (ctAt_mem (y := y) (i := i) (by omega))
 have hr := hx.r i hi hup
 have hbr := hx.br i hi hup
 have h1 := hx.f1 i hi hup
 have h2 := hx.f2 i hi hup
 have h3 := hx.f3 i hi hup
 have h4 := hx.f4 i hi hup
 have h5 := hx.fr i hi hup
 obtain ⟨hr0, hr1⟩ := c.r _ hr
 have hs0 := hy.s0
 generalize hrr : (stAt q i).ramp = r at *
 have hA : candF y free i r ≤ (stAt q i).from_ := by unfold candF; omega
 obtain ⟨b1, b2, b3⟩ := candF_le y free i r
 have hsc : servC y plan free i r = some (plan.set i ⟨r, candF y free i r⟩, free.set r.toNat (candF y free i r + (ctAt y i).takes.hi + y.sweep)) := by
  unfold servC
  rw [if_neg (by omega), if_neg (by omega), if_neg (by omega)]
 refine ⟨i, r, _, hi, hup, hr, hsc, q.set i ⟨r, candF y free i r⟩, ?_, ?_⟩
 ·generalize candF y free i r = A at *
  have hpi : stAt (plan.set i ⟨r, A⟩) i = ⟨r, A⟩ := by rw [stAt_set hi, if_pos rfl]
  have hpk : ∀ k, k ≠ i → stAt (plan.set i ⟨r, A⟩) k = stAt plan k := fun k hk => by rw [stAt_set hi, if_neg (fun e => hk e.symm)]
  have hqi : stAt (q.set i ⟨r, A⟩) i = ⟨r, A⟩ := by rw [stAt_set (by omega), if_pos rfl]
  have hqk : ∀ k, k ≠ i → stAt (q.set i ⟨r, A⟩) k = stAt q k := fun k hk => by rw [stAt_set (by omega), if_neg (fun e => hk e.symm)]
  have hlen : (plan.set i ⟨r, A⟩).length = plan.length := by simp
  have hnp : ∀ k, ¬ 0 ≤ (stAt (plan.set i ⟨r, A⟩) k).ramp → k ≠ i ∧ ¬ 0 ≤ (stAt plan k).ramp := fun k hk => by
   by_cases e : k = i
   ·subst e
    rw [hpi] at hk
    exact absurd hr0 hk
   ·rw [hpk k e] at hk
    exact ⟨e, hk⟩
  show Ext y (plan.set i ⟨r, A⟩) (free.set r.toNat (A + (ctAt y i).takes.hi + y.sweep)) (q.set i ⟨r, A⟩)
  refine ⟨by simp [hql], fun k hk h0 => ?_, fun k hk h0 => ?_, fun k hk h0 => ?_, fun k hk h0 => ?_, fun k hk h0 => ?_, fun k hk h0 => ?_, fun k hk h0 => ?_, fun k hk h0 => ?_, fun j k hj hk hne h0 h1 hre => ?_⟩
  ·rw [hlen] at hk
   by_cases e : k = i
   ·subst e; rw [hqi, hpi]
   ·rw [hpk k e] at h0 ⊢
    rw [hqk k e]
    exact hx.old k (by omega) h0
  ·rw [hlen] at hk
   obtain ⟨e, h0⟩ := hnp k h0
   rw [hqk k e]; exact hx.r k (by omega) h0
  ·rw [hlen] at hk
   obtain ⟨e, h0⟩ := hnp k h0
   rw [hqk k e]; exact hx.br k (by omega) h0
  ·rw [hlen] at hk
   obtain ⟨e, h0⟩ := hnp k h0
   rw [hqk k e]; exact hx.f1 k (by omega) h0
  ·rw [hlen] at hk
   obtain ⟨e, h0⟩ := hnp k h0
   rw [hqk k e]; exact hx.f2 k (by omega) h0
  ·rw [hlen] at hk
   obtain ⟨e, h0⟩ := hnp k h0
   rw [hqk k e]; exact hx.f3 k (by omega) h0
  ·rw [hlen] at hk
   obtain ⟨e, h0⟩ := hnp k h0
   rw [hqk k e]; exact hx.f4 k (by omega) h0
  ·rw [hlen] at hk
   obtain ⟨e, h0⟩ := hnp k h0
   have hk' : k < plan.length := by omega
   rw [hqk k e, tkAt_set (by omega)]
   have ck := hy.ct _ (ctAt_mem (y := y) (i := k) (by omega))
   obtain ⟨hk0, hk1⟩ := ck.r _ (hx.r k hk' h0)
   have ckl := ck.l0
   have ckh := ck.lh
   have hm := hmin k hk' h0
   by_cases e2 : r.toNat = (stAt q k).ramp.toNat
   ·rw [if_pos e2]
    have e3 : (stAt q i).ramp = (stAt q k).ramp := by rw [hrr]; omega
    rcases hx.sep i k hi hk' (fun h => e h.symm) hup h0 e3 with h6 | h6
    ·omega
    ·omega
   ·rw [if_neg e2]; exact hx.fr k hk' h0
  ·rw [hlen] at hj hk
   obtain ⟨e, h0⟩ := hnp j h0
   obtain ⟨e', h1⟩ := hnp k h1
   rw [hqk j e, hqk k e'] at hre ⊢
   exact hx.sep j k (by omega) (by omega) hne h0 h1 hre
 ·have hlast : lastV y (q.set i ⟨r, candF y free i r⟩) ≤ lastV y q := by
   rw [lastV_le]
   refine ⟨lastV_nn y q, fun k hk hk2 => ?_⟩
   rw [stAt_set (by omega)]
   by_cases e : i = k
   ·subst e
    rw [if_pos rfl]
    have := lastV_at (y := y) (p := q) (i := i) (by omega) (by omega)
    simp only
    omega
   ·rw [if_neg e]
    exact lastV_at (by simpa using hk) hk2
  by_cases hlt : lastV y (q.set i ⟨r, candF y free i r⟩) < lastV y q
  ·exact .inl hlt
  ·refine .inr ⟨by omega, beforeB_set (by omega) ?_⟩
   cases hs : sltB (stAt q i) ⟨r, candF y free i r⟩ with
   | false => rfl
   | true =>
    rw [sltB_true, hrr] at hs
    simp only at hs
    omega
theorem fold_some {α : Type} {y : Ya} {f : Option (List St) → α → Option (List St)} {N : Nat} (hf : ∀ best a z, (∀ b, best = some b → b.length = N) → f best a = some z → z.length = N)
  (hm : ∀ best a b, (∀ b, best = some b → b.length = N) → best = some b → ∃ z, f best a = some z ∧ leP y z b) :
  ∀ (l : List α) (best : Option (List St)), (∀ b, best = some b → b.length = N) → (∀ z, l.foldl f best = some z → z.length = N) ∧ ∀ b, best = some b → ∃ z, l.foldl f best = some z ∧ leP y z b
 | [], best, hb => ⟨hb, fun b h => ⟨b, h, leP_refl y b⟩⟩
 | a :: l, best, hb => by
  have hb' : ∀ b, f best a = some b → b.length = N := fun b h => hf best a b hb h
  obtain ⟨h1, h2⟩ := fold_some hf hm l (f best a) hb'
  refine ⟨h1, fun b h => ?_⟩
  obtain ⟨z, hz, hz2⟩ := hm best a b hb h
  obtain ⟨w, hw, hw2⟩ := h2 z hz
  exact ⟨w, hw, leP_trans ((h1 w hw).trans (hb' z hz).symm) ((hb' z hz).trans (hb b h).symm) hw2 hz2⟩
theorem fold_hit {α : Type} {y : Ya} {f : Option (List St) → α → Option (List St)} {N : Nat} (hf : ∀ best a z, (∀ b, best = some b → b.length = N) → f best a = some z → z.length = N)
  (hm : ∀ best a b, (∀ b, best = some b → b.length = N) → best = some b → ∃ z, f best a = some z ∧ leP y z b) {l : List α} {a : α} (ha : a ∈ l) {x : List St} (hx : x.length = N)
  (hh : ∀ best, (∀ b, best = some b → b.length = N) → ∃ z, f best a = some z ∧ leP y z x) {best : Option (List St)} (hb : ∀ b, best = some b → b.length = N) : ∃ z, l.foldl f best = some z ∧ z.length = N ∧ leP y z x := by
 obtain ⟨l1, l2, rfl⟩ := List.append_of_mem ha
 rw [List.foldl_append, List.foldl_cons]
 have h1 := (fold_some hf hm l1 best hb).1
 obtain ⟨z, hz, hz2⟩ := hh _ h1
 have hzl := hf _ a z h1 hz
 obtain ⟨h3, h4⟩ := fold_some hf hm l2 (f (l1.foldl f best) a) (fun b h => hf _ a b h1 h)
 obtain ⟨w, hw, hw2⟩ := h4 z hz
 exact ⟨w, hw, h3 w hw, leP_trans ((h3 w hw).trans hzl.symm) (hzl.trans hx.symm) hw2 hz2⟩
theorem servR_best {y : Ya} (hy : YaV y) : ∀ (n : Nat) (plan : List St) (free : List Int), SvOk y plan free → un plan ≤ n →
  (∀ x, servR y n plan free = some x → Ext y plan free x) ∧ ∀ q, Ext y plan free q → ∃ x, servR y n plan free = some x ∧ leP y x q
 | 0, plan, free, h, hu => by
  have ha := all_un (plan := plan) (by omega)
  exact ⟨fun x hx => by cases hx; exact ext_all ha, fun q hq => ⟨plan, rfl, by rw [hq.all ha]; exact leP_refl y plan⟩⟩
 | n + 1, plan, free, h, hu => by
  cases ha : plan.all placed with
  | true =>
   rw [servR, if_pos ha]
   exact ⟨fun x hx => by cases hx; exact ext_all ha, fun q hq => ⟨plan, rfl, by rw [hq.all ha]; exact leP_refl y plan⟩⟩
  | false =>
   have hl := h.len
   have hun : un plan ≠ 0 := fun e => by rw [all_un e] at ha; cases ha
   rw [servR, if_neg (by rw [ha]; decide)]
   -- one step
   have hstep : ∀ i, i < plan.length → ¬ 0 ≤ (stAt plan i).ramp → ∀ r ∈ (ctAt y i).ramps, ∀ p, servC y plan free i r = some p → ∀ x, servR y n p.1 p.2 = some x → Ext y plan free x := fun i hi hp r hr p hpq x hx => by
    have c := hy.ct _ (ctAt_mem (y := y) (i := i) (by omega))
    obtain ⟨hr0, hr1⟩ := c.r r hr
    have hok := servC_ok hy h hi hr0 hr1 hpq
    have hue := servC_un hi hr0 hp hpq
    exact ext_back hy h hi hp hr hpq ((servR_best hy n p.1 p.2 hok (by omega)).1 x hx)
   constructor
   ·intro x hx
    refine fold_inv (p := fun best : Option (List St) => ∀ b, best = some b → Ext y plan free b) (fun b hb => by cases hb) (fun i hi best hb => ?_) x hx
    unfold stepI
    split
    ·exact hb
    ·rename_i hp
     refine fold_inv (p := fun best : Option (List St) => ∀ b, best = some b → Ext y plan free b) hb fun r hr best hbest b hbs => ?_
     unfold stepK at hbs
     split at hbs
     ·exact hbest b hbs
     ·rename_i q hq
      split at hbs
      ·exact hbest b hbs
      ·rename_i z hz
       rcases better_some hbs with rfl | h2
       ·exact hstep i (List.mem_range.1 hi) hp r hr q hq _ hz
       ·exact hbest b h2
   ·intro q hq
    obtain ⟨i, r, p, hi, hp, hr, hpq, q', hq', hle⟩ := ext_step hy h hq hun
    have c := hy.ct _ (ctAt_mem (y := y) (i := i) (by omega))
    obtain ⟨hr0, hr1⟩ := c.r r hr
    have hok := servC_ok hy h hi hr0 hr1 hpq
    have hue := servC_un hi hr0 hp hpq
    obtain ⟨x, hx, hxq⟩ := (servR_best hy n p.1 p.2 hok (by omega)).2 q' hq'
    have hxl : x.length = plan.length := (hstep i hi hp r hr p hpq x hx).len
    have hql : q'.length = plan.length := by rw [hq'.len, hok.len, hl]
    -- all steps keep the length, and never worsen
    have kf : ∀ j, ∀ (best : Option (List St)) (r : Int) (z : List St), (∀ b, best = some b → b.length = plan.length) → stepK y (servR y n) plan free j best r = some z → (j < plan.length → ¬ 0 ≤ (stAt plan j).ramp → r ∈ (ctAt y j).ramps → z.length = plan.length) := by
     intro j best r z hb hz hj hjp hjr
     unfold stepK at hz
     split at hz
     ·exact hb z hz
     ·rename_i q2 hq2
      split at hz
      ·exact hb z hz
      ·rename_i z2 hz2
       rcases better_some hz with rfl | h2
       ·exact (hstep j hj hjp r hjr q2 hq2 _ hz2).len
       ·exact hb z h2
    have km : ∀ j, j < plan.length → ¬ 0 ≤ (stAt plan j).ramp → ∀ (best : Option (List St)) (r : Int) (b : List St), r ∈ (ctAt y j).ramps → (∀ b, best = some b → b.length = plan.length) → best = some b → ∃ z, stepK y (servR y n) plan free j best r = some z ∧ leP y z b := by
     intro j hj hjp best r b hjr hb hbb
     unfold stepK
     split
     ·exact ⟨b, hbb, leP_refl y b⟩
     ·rename_i q2 hq2
      split
      ·exact ⟨b, hbb, leP_refl y b⟩
      ·rename_i z2 hz2
       have hl2 := (hstep j hj hjp r hjr q2 hq2 _ hz2).len
       obtain ⟨z, h1, h2, h3⟩ := better_le (y := y) (best := best) (x := z2) (fun b h => by rw [hb b h, hl2])
       exact ⟨z, h1, h3 b hbb⟩
    -- the same for a cart's ramps; ramps are taken with their membership
    have If : ∀ (best : Option (List St)) (j : {j // j < plan.length}) (z : List St), (∀ b, best = some b → b.length = plan.length) → stepI y (servR y n) plan free best j.1 = some z → z.length = plan.length := by
     intro best j z hb hz
     unfold stepI at hz
     split at hz
     ·exact hb z hz
     ·rename_i hjp
      exact fold_inv (p := fun best : Option (List St) => ∀ b, best = some b → b.length = plan.length) hb (fun r hr best hbest b hbs => kf j.1 best r b hbest hbs j.2 hjp hr) z hz
    have hattach : ∀ (j : Nat), j < plan.length → ¬ 0 ≤ (stAt plan j).ramp → ∀ best : Option (List St), (ctAt y j).ramps.foldl (stepK y (servR y n) plan free j) best = (ctAt y j).ramps.attach.foldl (fun best r => stepK y (servR y n) plan free j best r.1) best := fun j _ _ best => by
     rw [List.foldl_attach]
    have Im : ∀ (best : Option (List St)) (j : {j // j < plan.length}) (b : List St), (∀ b, best = some b → b.length = plan.length) → best = some b → ∃ z, stepI y (servR y n) plan free best j.1 = some z ∧ leP y z b := by
     intro best j b hb hbb
     unfold stepI
     split
     ·exact ⟨b, hbb, leP_refl y b⟩
     ·rename_i hjp
      rw [hattach j.1 j.2 hjp]
      exact (fold_some (y := y) (N := plan.length) (f := fun best (r : {r // r ∈ (ctAt y j.1).ramps}) => stepK y (servR y n) plan free j.1 best r.1) (fun best r z hb hz => kf j.1 best r.1 z hb hz j.2 hjp r.2)
       (fun best r b hb hbb => km j.1 j.2 hjp best r.1 b r.2 hb hbb) _ best hb).2 b hbb
    have hIi : ∀ best : Option (List St), (∀ b, best = some b → b.length = plan.length) → ∃ z, stepI y (servR y n) plan free best i = some z ∧ leP y z x := by
     intro best hb
     unfold stepI
     rw [if_neg hp, hattach i hi hp]
     obtain ⟨z, h1, _, h2⟩ := fold_hit (y := y) (N := plan.length) (f := fun best (r : {r // r ∈ (ctAt y i).ramps}) => stepK y (servR y n) plan free i best r.1) (fun best r z hb hz => kf i best r.1 z hb hz hi hp r.2)
       (fun best r b hb hbb => km i hi hp best r.1 b r.2 hb hbb) (List.mem_attach _ ⟨r, hr⟩) hxl (fun best hb => by
        simp only [stepK, hpq, hx]
        obtain ⟨z, h1, h2, h3⟩ := better_le (y := y) (best := best) (x := x) (fun b h => by rw [hb b h, hxl])
        exact ⟨z, h1, h2⟩) hb
     exact ⟨z, h1, h2⟩
    obtain ⟨L, hL1, hL2⟩ : ∃ L : List {j // j < plan.length}, (List.range plan.length).foldl (stepI y (servR y n) plan free) none = L.foldl (fun best j => stepI y (servR y n) plan free best j.1) none ∧ (⟨i, hi⟩ : {j // j < plan.length}) ∈ L :=
     ⟨(List.range plan.length).attach.map (fun j => ⟨j.1, List.mem_range.1 j.2⟩), by rw [List.foldl_map, List.foldl_attach], List.mem_map.2 ⟨⟨i, List.mem_range.2 hi⟩, List.mem_attach _ _, rfl⟩⟩
    rw [hL1]
    obtain ⟨z, h1, hzl, h2⟩ := fold_hit (y := y) (N := plan.length) (f := fun best (j : {j // j < plan.length}) => stepI y (servR y n) plan free best j.1) If Im hL2 hxl hIi (best := none) (fun b h => by cases h)
    exact ⟨z, h1, leP_trans (hzl.trans hql.symm) (hql.trans hq.len.symm) (leP_trans (hzl.trans hxl.symm) (hxl.trans hql.symm) h2 hxq) hle⟩
end Go.Proofs.YtmiiipdgbkipjaaGreatDoor

/- A yard for which a plan is sought, plain: when ramps are done. -/
namespace Go.Proofs.YtmiiipdgbkipjaaGreatDoor
structure Ry where
 y : Ya
 wk : List (Nat × Nat)
 frm : List Int
 til : Int
def mustAt (R : Ry) (r : Nat) : Nat := (R.wk.getD r (0, 0)).1
def notAt (R : Ry) (r : Nat) : Nat := (R.wk.getD r (0, 0)).2
def frmAt (R : Ry) (c : Nat) : Int := R.frm.getD c 0
structure RyOk (R : Ry) : Prop where
 y : YaV R.y
 wl : R.wk.length = 3
 fl : R.frm.length = 7
 w : ∀ r, mustAt R r < 128 ∧ notAt R r < 128
 f : ∀ c, 0 ≤ frmAt R c ∧ frmAt R c ≤ 1000
 t0 : 0 ≤ R.til
 t1 : R.til ≤ 1000
def rAt (R : Ry) (r : Nat) : Ra := raAt R.y r
def mayB (R : Ry) (c r : Nat) : Bool := decide ((r : Int) ∈ (ctAt R.y c).ramps) && decide ((ctAt R.y c).grams ≤ (rAt R r).bears) && !(notAt R r).testBit c
def never : Int := 1048576
def lastF (R : Ry) (r c : Nat) (t : List Int) (s : Nat) : Int :=
 let f0 := max (ctAt R.y c).from_ (rAt R r).open_
 if 0 < sdiff s (2 ^ c) then max f0 (t.getD (sdiff s (2 ^ c)) 0 + R.y.sweep) else f0
def comeF (R : Ry) (r c : Nat) (t : List Int) (s : Nat) : Option Int :=
 if (mustAt R r).testBit c then (if frmAt R c < lastF R r c t s then none else some (frmAt R c)) else some (lastF R r c t s)
def limF (R : Ry) (r c : Nat) : Int := min (min (ctAt R.y c).until_ (rAt R r).shut) R.til
def stepD (R : Ry) (r : Nat) (s : Nat) (t : List Int) (c : Nat) : List Int :=
 if s.testBit c && mayB R c r then
  match comeF R r c t s with
  | none => t
  | some f => if f + (ctAt R.y c).takes.hi ≤ limF R r c then t.set s (min (t.getD s 0) (f + (ctAt R.y c).takes.hi)) else t
 else t
def rowD (R : Ry) (r : Nat) (t : List Int) (s : Nat) : List Int := (List.range R.y.carts.length).foldl (stepD R r s) (t.set s never)
def doneL (R : Ry) (r : Nat) : List Int := (List.range' 1 (2 ^ R.y.carts.length - 1)).foldl (rowD R r) (List.replicate 128 0)
theorem stepD_len (R : Ry) (r s : Nat) (t : List Int) (c : Nat) : (stepD R r s t c).length = t.length := by
 unfold stepD
 split
 ·split
  ·rfl
  ·split <;> simp
 ·rfl
theorem rowD_len (R : Ry) (r : Nat) (t : List Int) (s : Nat) : (rowD R r t s).length = t.length := by
 unfold rowD
 generalize List.range R.y.carts.length = l
 have : ∀ (l : List Nat) (t : List Int), (l.foldl (stepD R r s) t).length = t.length := by
  intro l
  induction l with
  | nil => intro t; rfl
  | cons c l ih => intro t; rw [List.foldl_cons, ih, stepD_len]
 rw [this]; simp
theorem foldD_len (R : Ry) (r : Nat) : ∀ (l : List Nat) (t : List Int), (l.foldl (rowD R r) t).length = t.length := by
 intro l
 induction l with
 | nil => intro t; rfl
 | cons c l ih => intro t; rw [List.foldl_cons, ih, rowD_len]
theorem doneL_len (R : Ry) (r : Nat) : (doneL R r).length = 128 := by
 unfold doneL
 rw [foldD_len]; simp
def TB (t : List Int) : Prop := ∀ x ∈ t, 0 ≤ x ∧ x ≤ 1048576
theorem TB.getD {t : List Int} (h : TB t) (i : Nat) : 0 ≤ t.getD i 0 ∧ t.getD i 0 ≤ 1048576 := by
 rw [List.getD_eq_getElem?_getD]
 cases hx : t[i]? with
 | none => simp
 | some x => exact h x (List.mem_of_getElem? hx)
theorem TB.set {t : List Int} {i : Nat} {x : Int} (h : TB t) (hx : 0 ≤ x ∧ x ≤ 1048576) : TB (t.set i x) := fun z hz => by
 rcases List.mem_or_eq_of_mem_set hz with h1 | h1
 ·exact h z h1
 ·rw [h1]; exact hx
theorem lastF_bd {R : Ry} {r c : Nat} {t : List Int} {s : Nat} (h : RyOk R) (hr : r < R.y.ramps.length) (hc : c < R.y.carts.length) (ht : TB t) : 0 ≤ lastF R r c t s ∧ lastF R r c t s ≤ 2000000 := by
 have a := h.y.ct _ (ctAt_mem hc)
 have b := h.y.ra _ (raAt_mem (r := (r : Int)) (by omega) (by omega))
 have a1 := a.f0
 have a2 := a.fu
 have a3 := a.u1
 have b1 := b.o0
 have b2 := b.os
 have b3 := b.s1
 have c1 := h.y.s0
 have c2 := h.y.s1
 have d := ht.getD (sdiff s (2 ^ c))
 unfold lastF rAt
 simp only
 split <;> omega
theorem stepD_tb {R : Ry} {r s c : Nat} {t : List Int} (h : RyOk R) (hr : r < R.y.ramps.length) (hc : c < R.y.carts.length) (ht : TB t) : TB (stepD R r s t c) := by
 unfold stepD
 split
 ·split
  ·exact ht
  ·rename_i f hf
   have hl := lastF_bd (s := s) h hr hc ht
   have hfr := h.f c
   have a := h.y.ct _ (ctAt_mem hc)
   have a1 := a.l0
   have a2 := a.lh
   have a3 := a.h1
   have hf0 : 0 ≤ f ∧ f ≤ 2000000 := by
    unfold comeF at hf
    split at hf
    ·split at hf
     ·cases hf
     ·cases hf; omega
    ·cases hf; exact hl
   split
   ·have d := ht.getD s
    exact ht.set (by omega)
   ·exact ht
 ·exact ht
theorem rowD_tb {R : Ry} {r s : Nat} {t : List Int} (h : RyOk R) (hr : r < R.y.ramps.length) (ht : TB t) : TB (rowD R r t s) := by
 unfold rowD
 have h0 : TB (t.set s never) := ht.set (by unfold never; omega)
 exact fold_inv (p := TB) h0 fun c hc t ht => stepD_tb h hr (List.mem_range.1 hc) ht
theorem doneL_tb {R : Ry} {r : Nat} (h : RyOk R) (hr : r < R.y.ramps.length) : TB (doneL R r) :=
 fold_inv (p := TB) (fun x hx => by rw [List.mem_replicate] at hx; omega) fun s _ t ht => rowD_tb h hr ht
end Go.Proofs.YtmiiipdgbkipjaaGreatDoor

/- The program's check of plans, on values. (Vm) -/
namespace Go.Proofs.YtmiiipdgbkipjaaGreatDoor.Vm
open Go Go.Proofs
end Go.Proofs.YtmiiipdgbkipjaaGreatDoor.Vm
