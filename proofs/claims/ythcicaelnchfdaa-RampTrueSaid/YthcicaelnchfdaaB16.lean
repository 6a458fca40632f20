/- A part of the proofs about the chapter of the ramps; it states no condition of its own. -/
import Derived.Test.YthcicaelnchfdaaB13
import Derived.Test.YthcicaelnchfdaaB15
set_option linter.unusedVariables false
set_option linter.unusedSimpArgs false
/- Yards and plans, plain: their errors. -/
namespace Go.Proofs.Ythcicaelnchfdaa
def dawnB (n : Int) : Bool := inR n 0 480
def raErr (r : Ra) : Int := if dawnB r.open_ && dawnB r.shut then (if r.shut < r.open_ then 5 else if inR r.bears 0 1000000 then 0 else 1) else 1
def rasErr : List Ra → Int
 | [] => 0
 | x :: xs => if raErr x = 0 then rasErr xs else raErr x
def crErr (nr : Nat) : Int → List Int → Int
 | _, [] => 0
 | p, r :: rs => if inR r 0 ((nr : Int) - 1) then (if r ≤ p then 5 else crErr nr r rs) else 3
def ctErr (nr : Nat) (c : Ct) : Int :=
 if dawnB c.from_ && dawnB c.until_ then (if c.until_ < c.from_ then 5 else if inR c.takes.lo 1 480 && inR c.takes.hi 1 480 then (if c.takes.hi < c.takes.lo then 5 else if inR c.grams 0 1000000 then crErr nr (-1) c.ramps else 1) else 1) else 1
def ctsErr (nr : Nat) : List Ct → Int
 | [] => 0
 | x :: xs => if ctErr nr x = 0 then ctsErr nr xs else ctErr nr x
def yErr (y : Ya) : Int :=
 if y.ramps.length = 0 then 7 else if 3 < y.ramps.length then 6 else if rasErr y.ramps = 0 then (if 7 < y.carts.length then 6 else if ctsErr y.ramps.length y.carts = 0 then (if dawnB y.sweep then 0 else 1) else ctsErr y.ramps.length y.carts) else rasErr y.ramps
def bearsAt (y : Ya) (r : Int) : Int := (y.ramps.getD r.toNat ⟨0, 0, 0⟩).bears
def slErr (y : Ya) (s : St) (c : Ct) : Int :=
 if inR s.ramp 0 ((y.ramps.length : Int) - 1) then (if s.ramp ∈ c.ramps then (if bearsAt y s.ramp < c.grams then 13 else if dawnB s.from_ then 0 else 1) else 8) else 3
def slsErr (y : Ya) : List St → List Ct → Int
 | s :: ss, c :: cs => if slErr y s c = 0 then slsErr y ss cs else slErr y s c
 | _, _ => 0
def plErr (y : Ya) (p : List St) : Int := if yErr y = 0 then (if p.length = y.carts.length then slsErr y p y.carts else 2) else yErr y

theorem drop_at {α : Type} {l : List α} {i : Nat} (h : i < l.length) : l.drop i = l[i] :: l.drop (i + 1) := List.drop_eq_getElem_cons h
theorem rasErr_at {l : List Ra} {i : Nat} (h : i < l.length) : rasErr (l.drop i) = if raErr l[i] = 0 then rasErr (l.drop (i + 1)) else raErr l[i] := by rw [drop_at h, rasErr]
theorem ctsErr_at {n : Nat} {l : List Ct} {i : Nat} (h : i < l.length) : ctsErr n (l.drop i) = if ctErr n l[i] = 0 then ctsErr n (l.drop (i + 1)) else ctErr n l[i] := by rw [drop_at h, ctsErr]
theorem slsErr_at {y : Ya} {p : List St} {i : Nat} (h : i < p.length) (h' : i < y.carts.length) : slsErr y (p.drop i) (y.carts.drop i) = if slErr y p[i] y.carts[i] = 0 then slsErr y (p.drop (i + 1)) (y.carts.drop (i + 1)) else slErr y p[i] y.carts[i] := by
 rw [drop_at h, drop_at h', slsErr]
def prevOf (l : List Int) (i : Nat) : Int := if i = 0 then -1 else l.getD (i - 1) 0
theorem crErr_at {n : Nat} {l : List Int} {i : Nat} (h : i < l.length) : crErr n (prevOf l i) (l.drop i) = if inR l[i] 0 ((n : Int) - 1) then (if l[i] ≤ prevOf l i then 5 else crErr n (prevOf l (i + 1)) (l.drop (i + 1))) else 3 := by
 rw [drop_at h, crErr]
 have : prevOf l (i + 1) = l[i] := by simp [prevOf, h]
 rw [this]

structure RaV (r : Ra) : Prop where
 o0 : 0 ≤ r.open_
 os : r.open_ ≤ r.shut
 s1 : r.shut ≤ 480
 b0 : 0 ≤ r.bears
 b1 : r.bears ≤ 1000000
structure CtV (nr : Nat) (c : Ct) : Prop where
 f0 : 0 ≤ c.from_
 fu : c.from_ ≤ c.until_
 u1 : c.until_ ≤ 480
 l0 : 1 ≤ c.takes.lo
 lh : c.takes.lo ≤ c.takes.hi
 h1 : c.takes.hi ≤ 480
 g0 : 0 ≤ c.grams
 g1 : c.grams ≤ 1000000
 r : ∀ x ∈ c.ramps, 0 ≤ x ∧ x < nr
 asc : c.ramps.Pairwise (· < ·)
structure YaV (y : Ya) : Prop where
 n0 : 1 ≤ y.ramps.length
 n1 : y.ramps.length ≤ 3
 ra : ∀ r ∈ y.ramps, RaV r
 m1 : y.carts.length ≤ 7
 ct : ∀ c ∈ y.carts, CtV y.ramps.length c
 s0 : 0 ≤ y.sweep
 s1 : y.sweep ≤ 480
theorem raErr_ok {r : Ra} : raErr r = 0 ↔ RaV r := by
 unfold raErr dawnB
 constructor
 ·intro h
  split at h
  ·rename_i h1
   simp only [Bool.and_eq_true, inR_true] at h1
   split at h
   ·omega
   ·split at h
    ·rename_i h2 h3
     rw [inR_true] at h3
     exact ⟨by omega, by omega, by omega, by omega, by omega⟩
    ·omega
  ·omega
 ·intro ⟨a, b, c, d, e⟩
  rw [if_pos (by simp only [Bool.and_eq_true, inR_true]; omega), if_neg (by omega), if_pos (by rw [inR_true]; omega)]
theorem rasErr_ok {l : List Ra} : rasErr l = 0 ↔ ∀ r ∈ l, RaV r := by
 induction l with
 | nil => simp [rasErr]
 | cons x l ih =>
  rw [rasErr]
  by_cases h : raErr x = 0
  ·rw [if_pos h, ih]
   rw [raErr_ok] at h
   simp [h]
  ·rw [if_neg h]
   constructor
   ·intro h'; exact absurd h' h
   ·intro h'; exact absurd (raErr_ok.2 (h' x (by simp))) h
theorem crErr_ok {nr : Nat} : ∀ {l : List Int} {p : Int}, -1 ≤ p → (crErr nr p l = 0 ↔ (∀ x ∈ l, p < x ∧ x < nr) ∧ l.Pairwise (· < ·))
 | [], p, _ => by simp [crErr]
 | r :: l, p, hp => by
  rw [crErr]
  by_cases h1 : inR r 0 ((nr : Int) - 1) = true
  ·rw [if_pos h1]
   rw [inR_true] at h1
   by_cases h2 : r ≤ p
   ·rw [if_pos h2]
    constructor
    ·intro h; omega
    ·intro ⟨h, _⟩; have := h r (by simp); omega
   ·rw [if_neg h2, crErr_ok (by omega)]
    constructor
    ·intro ⟨h3, h4⟩
     refine ⟨fun x hx => ?_, List.pairwise_cons.2 ⟨fun x hx => (h3 x hx).1, h4⟩⟩
     rcases List.mem_cons.1 hx with rfl | hx
     ·omega
     ·have := h3 x hx; omega
    ·intro ⟨h3, h4⟩
     obtain ⟨h5, h6⟩ := List.pairwise_cons.1 h4
     exact ⟨fun x hx => ⟨h5 x hx, (h3 x (List.mem_cons_of_mem _ hx)).2⟩, h6⟩
  ·rw [if_neg h1]
   constructor
   ·intro h; omega
   ·intro ⟨h, _⟩
    have := h r (by simp)
    exact absurd (inR_true.2 (by omega)) h1
theorem ctErr_ok {nr : Nat} {c : Ct} : ctErr nr c = 0 ↔ CtV nr c := by
 unfold ctErr dawnB
 constructor
 ·intro h
  split at h
  ·rename_i h1
   simp only [Bool.and_eq_true, inR_true] at h1
   split at h
   ·omega
   ·split at h
    ·rename_i h2 h3
     simp only [Bool.and_eq_true, inR_true] at h3
     split at h
     ·omega
     ·split at h
      ·rename_i h4 h5
       rw [inR_true] at h5
       rw [crErr_ok (by omega)] at h
       exact ⟨by omega, by omega, by omega, by omega, by omega, by omega, by omega, by omega, fun x hx => by have := h.1 x hx; omega, h.2⟩
      ·omega
    ·omega
  ·omega
 ·intro ⟨a, b, c, d, e, f, g, i, j, k⟩
  rw [if_pos (by simp only [Bool.and_eq_true, inR_true]; omega), if_neg (by omega), if_pos (by simp only [Bool.and_eq_true, inR_true]; omega), if_neg (by omega), if_pos (by rw [inR_true]; omega), crErr_ok (by omega)]
  exact ⟨fun x hx => by have := j x hx; omega, k⟩
theorem ctsErr_ok {n : Nat} {l : List Ct} : ctsErr n l = 0 ↔ ∀ r ∈ l, CtV n r := by
 induction l with
 | nil => simp [ctsErr]
 | cons x l ih =>
  rw [ctsErr]
  by_cases h : ctErr n x = 0
  ·rw [if_pos h, ih]
   rw [ctErr_ok] at h
   simp [h]
  ·rw [if_neg h]
   constructor
   ·intro h'; exact absurd h' h
   ·intro h'; exact absurd (ctErr_ok.2 (h' x (by simp))) h
theorem yErr_ok {y : Ya} : yErr y = 0 ↔ YaV y := by
 unfold yErr dawnB
 constructor
 ·intro h
  split at h
  ·omega
  ·split at h
   ·omega
   ·split at h
    ·rename_i h1 h2 h3
     split at h
     ·omega
     ·split at h
      ·rename_i h4 h5
       split at h
       ·rename_i h6
        rw [inR_true] at h6
        exact ⟨by omega, by omega, rasErr_ok.1 h3, by omega, ctsErr_ok.1 h5, h6.1, h6.2⟩
       ·omega
      ·rename_i h5; exact absurd h h5
    ·rename_i h3; exact absurd h h3
 ·intro ⟨a, b, c, d, e, f, g⟩
  rw [if_neg (by omega), if_neg (by omega), if_pos (rasErr_ok.2 c), if_neg (by omega), if_pos (ctsErr_ok.2 e), if_pos (by rw [inR_true]; omega)]
end Go.Proofs.Ythcicaelnchfdaa

/- Plans, plain: whether they hold, and when carts are away. -/
namespace Go.Proofs.Ythcicaelnchfdaa
abbrev Ra0 : Ra := ⟨0, 0, 0⟩
abbrev Ct0 : Ct := ⟨0, 0, ⟨0, 0⟩, 0, []⟩
abbrev St0 : St := ⟨0, 0⟩
def raAt (y : Ya) (r : Int) : Ra := y.ramps.getD r.toNat Ra0
def ctAt (y : Ya) (i : Nat) : Ct := y.carts.getD i Ct0
def stAt (p : List St) (i : Nat) : St := p.getD i St0
def tkAt (l : List Int) (i : Nat) : Int := l.getD i 0
theorem stAt_get {p : List St} {i : Nat} (h : i < p.length) : p[i]? = some (stAt p i) := by simp [stAt, h]
theorem ctAt_get {y : Ya} {i : Nat} (h : i < y.carts.length) : y.carts[i]? = some (ctAt y i) := by simp [ctAt, h]
theorem tkAt_get {l : List Int} {i : Nat} (h : i < l.length) : l[i]? = some (tkAt l i) := by simp [tkAt, h]
theorem raAt_get {y : Ya} {r : Int} (h0 : 0 ≤ r) (h : r < y.ramps.length) : y.ramps[r.toNat]? = some (raAt y r) := by
 have : r.toNat < y.ramps.length := by omega
 simp [raAt, this]
theorem stAt_mem {p : List St} {i : Nat} (h : i < p.length) : stAt p i ∈ p := List.mem_of_getElem? (stAt_get h)
theorem ctAt_mem {y : Ya} {i : Nat} (h : i < y.carts.length) : ctAt y i ∈ y.carts := List.mem_of_getElem? (ctAt_get h)
theorem tkAt_mem {l : List Int} {i : Nat} (h : i < l.length) : tkAt l i ∈ l := List.mem_of_getElem? (tkAt_get h)
theorem raAt_mem {y : Ya} {r : Int} (h0 : 0 ≤ r) (h : r < y.ramps.length) : raAt y r ∈ y.ramps := List.mem_of_getElem? (raAt_get h0 h)
def okSelf (y : Ya) (p : List St) (tk : List Int) (i : Nat) : Bool :=
 decide ((ctAt y i).from_ ≤ (stAt p i).from_) && decide ((raAt y (stAt p i).ramp).open_ ≤ (stAt p i).from_) && decide ((stAt p i).from_ + tkAt tk i ≤ (ctAt y i).until_) && decide ((stAt p i).from_ + tkAt tk i ≤ (raAt y (stAt p i).ramp).shut)
def okPair (y : Ya) (p : List St) (tk : List Int) (i k : Nat) : Bool :=
 !(decide (k ≠ i) && decide ((stAt p k).ramp = (stAt p i).ramp) && (decide ((stAt p i).from_ < (stAt p k).from_) || (decide ((stAt p k).from_ = (stAt p i).from_) && decide (i < k))) && decide ((stAt p k).from_ < (stAt p i).from_ + tkAt tk i + y.sweep))
def okAll (y : Ya) (p : List St) (tk : List Int) (i : Nat) : Bool := okSelf y p tk i && (List.range p.length).all (okPair y p tk i)
def heldB (y : Ya) (p : List St) (tk : List Int) : Bool := (List.range p.length).all (okAll y p tk)
theorem range_take (f : Nat → Bool) (i : Nat) : (List.range (i + 1)).all f = ((List.range i).all f && f i) := by
 rw [List.range_succ]
 simp
theorem range_hit {f : Nat → Bool} {n i : Nat} (h : i < n) (hf : f i = false) : (List.range n).all f = false := by
 rw [List.all_eq_false]
 exact ⟨i, List.mem_range.2 h, by simp [hf]⟩
def longest (y : Ya) : List Int := y.carts.map (·.takes.hi)
def shortest (y : Ya) : List Int := y.carts.map (·.takes.lo)
def awayL (y : Ya) (p : List St) : List Sp := (p.zip y.carts).map fun x => ⟨x.1.from_ + x.2.takes.lo, x.1.from_ + x.2.takes.hi⟩
structure PlV (y : Ya) (p : List St) : Prop where
 len : p.length = y.carts.length
 r0 : ∀ i, i < p.length → 0 ≤ (stAt p i).ramp
 r1 : ∀ i, i < p.length → (stAt p i).ramp < y.ramps.length
 mem : ∀ i, i < p.length → (stAt p i).ramp ∈ (ctAt y i).ramps
 br : ∀ i, i < p.length → (ctAt y i).grams ≤ (raAt y (stAt p i).ramp).bears
 f0 : ∀ i, i < p.length → 0 ≤ (stAt p i).from_
 f1 : ∀ i, i < p.length → (stAt p i).from_ ≤ 480
theorem slErr_ok {y : Ya} {s : St} {c : Ct} : slErr y s c = 0 ↔ 0 ≤ s.ramp ∧ s.ramp < y.ramps.length ∧ s.ramp ∈ c.ramps ∧ c.grams ≤ bearsAt y s.ramp ∧ 0 ≤ s.from_ ∧ s.from_ ≤ 480 := by
 unfold slErr dawnB
 constructor
 ·intro h
  split at h
  ·rename_i h1
   rw [inR_true] at h1
   split at h
   ·rename_i h2
    split at h
    ·omega
    ·split at h
     ·rename_i h3 h4
      rw [inR_true] at h4
      exact ⟨by omega, by omega, h2, by omega, h4.1, h4.2⟩
     ·omega
   ·omega
  ·omega
 ·intro ⟨a, b, c, d, e, f⟩
  rw [if_pos (by rw [inR_true]; omega), if_pos c, if_neg (by omega), if_pos (by rw [inR_true]; omega)]
theorem slsErr_ok {y : Ya} : ∀ {p : List St} {cs : List Ct}, p.length = cs.length → (slsErr y p cs = 0 ↔ ∀ i, i < p.length → slErr y (p.getD i St0) (cs.getD i Ct0) = 0)
 | [], [], _ => by
  rw [slsErr]
  ·simp
  ·intro s ss c cs h; cases h
 | s :: p, c :: cs, h => by
  rw [slsErr]
  have ih := slsErr_ok (y := y) (p := p) (cs := cs) (by simpa using h)
  by_cases h1 : slErr y s c = 0
  ·rw [if_pos h1, ih]
   constructor
   ·intro h2 i hi
    cases i with
    | zero => exact h1
    | succ i => exact h2 i (by simpa using hi)
   ·intro h2 i hi
    exact h2 (i + 1) (by simpa using hi)
  ·rw [if_neg h1]
   constructor
   ·intro h2; exact absurd h2 h1
   ·intro h2; exact absurd (h2 0 (by simp)) h1
theorem plErr_ok {y : Ya} {p : List St} : plErr y p = 0 ↔ YaV y ∧ PlV y p := by
 unfold plErr
 constructor
 ·intro h
  split at h
  ·rename_i h1
   split at h
   ·rename_i h2
    have h3 := fun i hi => slErr_ok.1 ((slsErr_ok h2).1 h i hi)
    refine ⟨yErr_ok.1 h1, h2, fun i hi => (h3 i hi).1, fun i hi => (h3 i hi).2.1, fun i hi => (h3 i hi).2.2.1, fun i hi => (h3 i hi).2.2.2.1, fun i hi => (h3 i hi).2.2.2.2.1, fun i hi => (h3 i hi).2.2.2.2.2⟩
   ·omega
  ·rename_i h1; exact absurd h h1
 ·intro ⟨h1, h2⟩
  rw [if_pos (yErr_ok.2 h1), if_pos h2.len, slsErr_ok h2.len]
  intro i hi
  rw [slErr_ok]
  exact ⟨h2.r0 i hi, h2.r1 i hi, h2.mem i hi, h2.br i hi, h2.f0 i hi, h2.f1 i hi⟩
end Go.Proofs.Ythcicaelnchfdaa

/- Plans, plain: the last one away, and which plan comes before. -/
namespace Go.Proofs.Ythcicaelnchfdaa
def lastV (y : Ya) (p : List St) : Int := (awayL y p).foldl (fun m s => max m s.hi) 0
def sltB (a b : St) : Bool := decide (a.ramp < b.ramp) || (decide (a.ramp = b.ramp) && decide (a.from_ < b.from_))
def beforeB : List St → List St → Bool
 | a :: x, b :: z => if a = b then beforeB x z else sltB a b
 | _, _ => false
end Go.Proofs.Ythcicaelnchfdaa

/- The reference's search for the best plan, plain. -/
namespace Go.Proofs.Ythcicaelnchfdaa
def better (y : Ya) (best : Option (List St)) (x : List St) : Option (List St) :=
 match best with
 | none => some x
 | some b => if lastV y x < lastV y b then some x else if lastV y x = lastV y b then (if beforeB x b then some x else some b) else some b
def candF (y : Ya) (free : List Int) (i : Nat) (r : Int) : Int := max (ctAt y i).from_ (max (raAt y r).open_ (tkAt free r.toNat))
def servC (y : Ya) (plan : List St) (free : List Int) (i : Nat) (r : Int) : Option (List St × List Int) :=
 if (raAt y r).bears < (ctAt y i).grams then none else if (ctAt y i).until_ < candF y free i r + (ctAt y i).takes.hi then none else if (raAt y r).shut < candF y free i r + (ctAt y i).takes.hi then none
 else some (plan.set i ⟨r, candF y free i r⟩, free.set r.toNat (candF y free i r + (ctAt y i).takes.hi + y.sweep))
def stepK (y : Ya) (S : List St → List Int → Option (List St)) (plan : List St) (free : List Int) (i : Nat) (best : Option (List St)) (r : Int) : Option (List St) :=
 match servC y plan free i r with
 | none => best
 | some q => match S q.1 q.2 with
  | none => best
  | some x => better y best x
def stepI (y : Ya) (S : List St → List Int → Option (List St)) (plan : List St) (free : List Int) (best : Option (List St)) (i : Nat) : Option (List St) :=
 if 0 ≤ (stAt plan i).ramp then best else (ctAt y i).ramps.foldl (stepK y S plan free i) best
def placed (s : St) : Bool := decide (0 ≤ s.ramp)
def servR (y : Ya) : Nat → List St → List Int → Option (List St)
 | 0, plan, _ => some plan
 | n + 1, plan, free => if plan.all placed then some plan else (List.range plan.length).foldl (stepI y (servR y n) plan free) none
def un (plan : List St) : Nat := plan.countP fun s => !placed s
structure SvOk (y : Ya) (plan : List St) (free : List Int) : Prop where
 len : plan.length = y.carts.length
 fl : free.length = y.ramps.length
 f : ∀ i, i < plan.length → 0 ≤ (stAt plan i).from_ ∧ (stAt plan i).from_ ≤ 480
 fr : ∀ r, r < free.length → 0 ≤ tkAt free r ∧ tkAt free r ≤ 960
theorem stAt_set {l : List St} {i j : Nat} {s : St} (h : i < l.length) : stAt (l.set i s) j = if i = j then s else stAt l j := by
 unfold stAt
 rw [List.getD_eq_getElem?_getD, List.getD_eq_getElem?_getD, List.getElem?_set]
 by_cases hij : i = j
 ·subst hij; simp [h]
 ·simp [hij]
theorem tkAt_set {l : List Int} {i j : Nat} {s : Int} (h : i < l.length) : tkAt (l.set i s) j = if i = j then s else tkAt l j := by
 unfold tkAt
 rw [List.getD_eq_getElem?_getD, List.getD_eq_getElem?_getD, List.getElem?_set]
 by_cases hij : i = j
 ·subst hij; simp [h]
 ·simp [hij]
theorem candF_bd {y : Ya} {free : List Int} {i : Nat} {r : Int} (hy : YaV y) (hi : i < y.carts.length) (h0 : 0 ≤ r) (h1 : r < y.ramps.length) (hf : 0 ≤ tkAt free r.toNat ∧ tkAt free r.toNat ≤ 960) : 0 ≤ candF y free i r ∧ candF y free i r ≤ 960 := by
 have c := hy.ct _ (ctAt_mem hi)
 have k := hy.ra _ (raAt_mem h0 h1)
 have := c.f0
 have := c.fu
 have := c.u1
 have := k.o0
 have := k.os
 have := k.s1
 unfold candF
 omega
theorem servC_ok {y : Ya} {plan : List St} {free : List Int} {i : Nat} {r : Int} {q : List St × List Int} (hy : YaV y) (h : SvOk y plan free) (hi : i < plan.length) (h0 : 0 ≤ r) (h1 : r < y.ramps.length) (hq : servC y plan free i r = some q) : SvOk y q.1 q.2 := by
 have hl := h.len
 have hfl := h.fl
 have hc := candF_bd (free := free) (i := i) (r := r) hy (by omega) h0 h1 (h.fr _ (by omega))
 have c := hy.ct _ (ctAt_mem (y := y) (i := i) (by omega))
 have := c.u1
 have := c.l0
 have := c.lh
 have := c.h1
 have := hy.s0
 have := hy.s1
 unfold servC at hq
 split at hq
 ·cases hq
 ·split at hq
  ·cases hq
  ·split at hq
   ·cases hq
   ·cases hq
    refine ⟨by simpa using hl, by simpa using hfl, fun j hj => ?_, fun k hk => ?_⟩
    ·rw [stAt_set hi]
     by_cases hij : i = j
     ·rw [if_pos hij]; simp only; omega
     ·rw [if_neg hij]; exact h.f j (by simpa using hj)
    ·rw [tkAt_set (by omega)]
     by_cases hij : r.toNat = k
     ·rw [if_pos hij]; omega
     ·rw [if_neg hij]; exact h.fr k (by simpa using hk)
theorem un_set : ∀ {l : List St} {i : Nat} {s : St}, i < l.length → ¬ 0 ≤ (stAt l i).ramp → 0 ≤ s.ramp → un (l.set i s) + 1 = un l
 | x :: l, 0, s, _, h1, h2 => by
  simp only [stAt, List.getD_cons_zero] at h1
  have a1 : placed x = false := by simp [placed]; omega
  have a2 : placed s = true := by simp [placed]; omega
  simp [un, a1, a2]
 | x :: l, i + 1, s, h, h1, h2 => by
  have ih := un_set (l := l) (i := i) (s := s) (by simpa using h) (by simpa [stAt] using h1) h2
  simp only [un, List.set_cons_succ, List.countP_cons] at ih ⊢
  omega
theorem servC_un {y : Ya} {plan : List St} {free : List Int} {i : Nat} {r : Int} {q : List St × List Int} (hi : i < plan.length) (h0 : 0 ≤ r) (hu : ¬ 0 ≤ (stAt plan i).ramp) (hq : servC y plan free i r = some q) : un q.1 + 1 = un plan := by
 unfold servC at hq
 split at hq
 ·cases hq
 ·split at hq
  ·cases hq
  ·split at hq
   ·cases hq
   ·cases hq
    exact un_set hi hu h0
theorem all_un {plan : List St} (h : un plan = 0) : plan.all placed = true := by
 unfold un at h
 rw [List.countP_eq_zero] at h
 rw [List.all_eq_true]
 intro s hs
 simpa using h s hs
theorem servR_all {y : Ya} {plan : List St} {free : List Int} (h : plan.all placed = true) : ∀ n, servR y n plan free = some plan
 | 0 => rfl
 | n + 1 => by rw [servR, if_pos h]
def PB (y : Ya) (x : List St) : Prop := x.length = y.carts.length ∧ ∀ i, i < x.length → 0 ≤ (stAt x i).from_ ∧ (stAt x i).from_ ≤ 480
theorem better_some {y : Ya} {best : Option (List St)} {x b : List St} (h : better y best x = some b) : b = x ∨ best = some b := by
 unfold better at h
 cases best with
 | none => cases h; exact .inl rfl
 | some c =>
  simp only at h
  split at h
  ·cases h; exact .inl rfl
  ·split at h
   ·split at h
    ·cases h; exact .inl rfl
    ·cases h; exact .inr rfl
   ·cases h; exact .inr rfl
theorem fold_inv {α β : Type} {p : β → Prop} {f : β → α → β} : ∀ {l : List α} {b : β}, p b → (∀ a ∈ l, ∀ b, p b → p (f b a)) → p (l.foldl f b)
 | [], _, h, _ => h
 | a :: l, b, h, hf => fold_inv (l := l) (hf a (by simp) b h) fun c hc => hf c (by simp [hc])
theorem servR_pb {y : Ya} (hy : YaV y) : ∀ (n : Nat) (plan : List St) (free : List Int), SvOk y plan free → ∀ x, servR y n plan free = some x → PB y x
 | 0, plan, free, h, x, hx => by cases hx; exact ⟨h.len, h.f⟩
 | n + 1, plan, free, h, x, hx => by
  rw [servR] at hx
  split at hx
  ·cases hx; exact ⟨h.len, h.f⟩
  ·have key : ∀ best : Option (List St), (∀ b, best = some b → PB y b) → ∀ i ∈ List.range plan.length, ∀ b, stepI y (servR y n) plan free best i = some b → PB y b := by
    intro best hb i hi
    unfold stepI
    split
    ·exact hb
    ·have hi' := List.mem_range.1 hi
     have hl := h.len
     have c := hy.ct _ (ctAt_mem (y := y) (i := i) (by omega))
     refine fold_inv (p := fun best : Option (List St) => ∀ b, best = some b → PB y b) hb fun r hr best hbest b hbs => ?_
     unfold stepK at hbs
     split at hbs
     ·exact hbest b hbs
     ·rename_i q hq
      split at hbs
      ·exact hbest b hbs
      ·rename_i z hz
       rcases better_some hbs with rfl | h2
       ·exact servR_pb hy n _ _ (servC_ok hy h hi' (c.r r hr).1 (c.r r hr).2 hq) _ hz
       ·exact hbest b h2
   exact fold_inv (p := fun best : Option (List St) => ∀ b, best = some b → PB y b) (fun b hb => by cases hb) (fun i hi best hb => key best hb i hi) x hx
end Go.Proofs.Ythcicaelnchfdaa

/- Choices of carts, and the reference's answers, plain. -/
namespace Go.Proofs.Ythcicaelnchfdaa
def choices (n : Nat) : Nat → Nat → List (List Int)
 | 0, _ => [[]]
 | m + 1, first => (List.range' first (n - first)).flatMap fun i => (choices n m (i + 1)).map fun l => (i : Int) :: l
def onlyY (y : Ya) (l : List Int) : Ya := { y with carts := l.map fun k => ctAt y k.toNat }
def servedR (y : Ya) : Option (List St) := servR y y.carts.length (List.replicate y.carts.length ⟨-1, 0⟩) (List.replicate y.ramps.length 0)
def serveT (y : Ya) : List St × Int × Int := if yErr y = 0 then (match servedR y with
 | none => ([], 0, 3)
 | some p => (p, lastV y p, 0)) else ([], 0, yErr y)
def stuckL (y : Ya) : List (List Int) := (List.range' 1 y.carts.length).flatMap fun m => choices y.carts.length m 0
def mostL (y : Ya) : List (List Int) := (List.range y.carts.length).flatMap fun j => choices y.carts.length (y.carts.length - j) 0
def canB (y : Ya) (l : List Int) : Bool := (servedR (onlyY y l)).isSome
def stuckT (y : Ya) : List Int × Int := if yErr y = 0 then (match (stuckL y).find? (fun l => !canB y l) with
 | none => ([], 3)
 | some l => (l, 0)) else ([], yErr y)
def mostT (y : Ya) : List Int × Int := if yErr y = 0 then (match (mostL y).find? (canB y) with
 | none => ([], 0)
 | some l => (l, 0)) else ([], yErr y)
theorem onlyY_ok {y : Ya} {l : List Int} (h : YaV y) (hl : l.length ≤ 7) (hm : ∀ x ∈ l, 0 ≤ x ∧ x < y.carts.length) : YaV (onlyY y l) := by
 refine ⟨h.n0, h.n1, h.ra, by simpa [onlyY] using hl, fun c hc => ?_, h.s0, h.s1⟩
 obtain ⟨k, hk, rfl⟩ := List.mem_map.1 hc
 have := hm k hk
 exact h.ct _ (ctAt_mem (by omega))
end Go.Proofs.Ythcicaelnchfdaa

/- Plans that serve all carts, and the best of them, plain. -/
namespace Go.Proofs.Ythcicaelnchfdaa
/-! ### an order of plans -/
theorem slt_irr (a : St) : sltB a a = false := by simp [sltB]
theorem beforeB_irr : ∀ a : List St, beforeB a a = false
 | [] => by rw [beforeB]; intro x z u v h; cases h
 | x :: a => by rw [beforeB, if_pos rfl]; exact beforeB_irr a
theorem beforeB_nil (b : List St) : beforeB [] b = false := by rw [beforeB]; intro x z u v h; cases h
theorem sltB_true {a b : St} : sltB a b = true ↔ a.ramp < b.ramp ∨ (a.ramp = b.ramp ∧ a.from_ < b.from_) := by simp [sltB]
theorem beforeB_trans : ∀ {a b c : List St}, a.length = b.length → b.length = c.length → beforeB a b = true → beforeB b c = true → beforeB a c = true
 | [], _, _, _, _, h, _ => by rw [beforeB_nil] at h; cases h
 | x :: a, [], _, h, _, _, _ => by simp at h
 | x :: a, y :: b, [], _, h, _, _ => by simp at h
 | x :: a, y :: b, z :: c, h1, h2, h3, h4 => by
  rw [beforeB] at h3 h4 ⊢
  by_cases e1 : x = y
  ·subst e1
   rw [if_pos rfl] at h3
   by_cases e2 : x = z
   ·subst e2
    rw [if_pos rfl] at h4 ⊢
    exact beforeB_trans (by simpa using h1) (by simpa using h2) h3 h4
   ·rw [if_neg e2] at h4 ⊢; exact h4
  ·rw [if_neg e1] at h3
   by_cases e2 : y = z
   ·subst e2
    rw [if_neg e1]; exact h3
   ·rw [if_neg e2] at h4
    rw [sltB_true] at h3 h4
    by_cases e3 : x = z
    ·subst e3
     omega
    ·rw [if_neg e3, sltB_true]; omega
theorem beforeB_total : ∀ {a b : List St}, a.length = b.length → beforeB a b = false → beforeB b a = false → a = b
 | [], [], _, _, _ => rfl
 | [], y :: b, h, _, _ => by simp at h
 | x :: a, [], h, _, _ => by simp at h
 | x :: a, y :: b, h, h1, h2 => by
  rw [beforeB] at h1 h2
  by_cases e : x = y
  ·subst e
   rw [if_pos rfl] at h1 h2
   rw [beforeB_total (by simpa using h) h1 h2]
  ·rw [if_neg e] at h1
   rw [if_neg (fun h => e h.symm)] at h2
   have h3 : ¬ (x.ramp < y.ramp ∨ (x.ramp = y.ramp ∧ x.from_ < y.from_)) := fun h => by rw [sltB_true.2 h] at h1; cases h1
   have h4 : ¬ (y.ramp < x.ramp ∨ (y.ramp = x.ramp ∧ y.from_ < x.from_)) := fun h => by rw [sltB_true.2 h] at h2; cases h2
   exfalso
   apply e
   cases x; cases y
   simp only [St.mk.injEq]
   simp only at h3 h4
   omega
theorem beforeB_asym {a b : List St} (hl : a.length = b.length) (h : beforeB a b = true) : beforeB b a = false := by
 cases h2 : beforeB b a with
 | false => rfl
 | true =>
  have := beforeB_trans hl hl.symm h h2
  rw [beforeB_irr] at this
  cases this
theorem beforeB_set : ∀ {q : List St} {i : Nat} {s : St}, i < q.length → sltB (stAt q i) s = false → beforeB q (q.set i s) = false
 | x :: q, 0, s, _, h => by
  rw [List.set_cons_zero, beforeB]
  by_cases e : x = s
  ·rw [if_pos e]; exact beforeB_irr q
  ·rw [if_neg e]; exact h
 | x :: q, i + 1, s, h, h2 => by
  rw [List.set_cons_succ, beforeB, if_pos rfl]
  exact beforeB_set (by simpa using h) (by simpa [stAt] using h2)
def leP (y : Ya) (a b : List St) : Prop := lastV y a < lastV y b ∨ (lastV y a = lastV y b ∧ beforeB b a = false)
theorem leP_refl (y : Ya) (a : List St) : leP y a a := .inr ⟨rfl, beforeB_irr a⟩
theorem leP_trans {y : Ya} {a b c : List St} (h1 : a.length = b.length) (h2 : b.length = c.length) (h3 : leP y a b) (h4 : leP y b c) : leP y a c := by
 rcases h3 with h3 | ⟨h3, h5⟩
 ·rcases h4 with h4 | ⟨h4, _⟩
  ·exact .inl (by omega)
  ·exact .inl (by omega)
 ·rcases h4 with h4 | ⟨h4, h6⟩
  ·exact .inl (by omega)
  ·refine .inr ⟨by omega, ?_⟩
   cases hca : beforeB c a with
   | false => rfl
   | true =>
    by_cases hab : a = b
    ·subst hab; rw [h6] at hca; cases hca
    ·cases hab2 : beforeB a b with
     | false => exact absurd (beforeB_total h1 hab2 h5) hab
     | true =>
      have := beforeB_trans (h2.symm.trans h1.symm) h1 hca hab2
      rw [h6] at this; cases this
theorem better_le {y : Ya} {best : Option (List St)} {x : List St} (hb : ∀ b, best = some b → b.length = x.length) : ∃ z, better y best x = some z ∧ leP y z x ∧ ∀ b, best = some b → leP y z b := by
 unfold better
 cases best with
 | none => exact ⟨x, rfl, leP_refl y x, fun b h => by cases h⟩
 | some b =>
  have hl := hb b rfl
  simp only
  split
  ·rename_i h
   exact ⟨x, rfl, leP_refl y x, fun c hc => by cases hc; exact .inl h⟩
  ·rename_i h
   split
   ·rename_i h2
    cases h3 : beforeB x b with
    | true =>
     rw [if_pos rfl]
     exact ⟨x, rfl, leP_refl y x, fun c hc => by cases hc; exact .inr ⟨h2, beforeB_asym hl.symm h3⟩⟩
    | false =>
     rw [if_neg (by decide)]
     exact ⟨b, rfl, .inr ⟨h2.symm, h3⟩, fun c hc => by cases hc; exact leP_refl y b⟩
   ·rename_i h2
    exact ⟨b, rfl, .inl (by omega), fun c hc => by cases hc; exact leP_refl y b⟩
/-! ### what goes on from a plan -/
structure Ext (y : Ya) (plan : List St) (free : List Int) (q : List St) : Prop where
 len : q.length = plan.length
 old : ∀ i, i < plan.length → 0 ≤ (stAt plan i).ramp → stAt q i = stAt plan i
 r : ∀ i, i < plan.length → ¬ 0 ≤ (stAt plan i).ramp → (stAt q i).ramp ∈ (ctAt y i).ramps
 br : ∀ i, i < plan.length → ¬ 0 ≤ (stAt plan i).ramp → (ctAt y i).grams ≤ (raAt y (stAt q i).ramp).bears
 f1 : ∀ i, i < plan.length → ¬ 0 ≤ (stAt plan i).ramp → (ctAt y i).from_ ≤ (stAt q i).from_
 f2 : ∀ i, i < plan.length → ¬ 0 ≤ (stAt plan i).ramp → (raAt y (stAt q i).ramp).open_ ≤ (stAt q i).from_
 f3 : ∀ i, i < plan.length → ¬ 0 ≤ (stAt plan i).ramp → (stAt q i).from_ + (ctAt y i).takes.hi ≤ (ctAt y i).until_
 f4 : ∀ i, i < plan.length → ¬ 0 ≤ (stAt plan i).ramp → (stAt q i).from_ + (ctAt y i).takes.hi ≤ (raAt y (stAt q i).ramp).shut
 fr : ∀ i, i < plan.length → ¬ 0 ≤ (stAt plan i).ramp → tkAt free (stAt q i).ramp.toNat ≤ (stAt q i).from_
 sep : ∀ i k, i < plan.length → k < plan.length → i ≠ k → ¬ 0 ≤ (stAt plan i).ramp → ¬ 0 ≤ (stAt plan k).ramp → (stAt q i).ramp = (stAt q k).ramp →
  (stAt q i).from_ + (ctAt y i).takes.hi + y.sweep ≤ (stAt q k).from_ ∨ (stAt q k).from_ + (ctAt y k).takes.hi + y.sweep ≤ (stAt q i).from_
theorem st_ext {a b : List St} (hl : a.length = b.length) (h : ∀ i, i < a.length → stAt a i = stAt b i) : a = b := by
 apply List.ext_getElem hl
 intro i h1 h2
 have := h i h1
 simpa [stAt, h1, h2] using this
theorem Ext.all {y : Ya} {plan : List St} {free : List Int} {q : List St} (h : Ext y plan free q) (hp : plan.all placed = true) : q = plan := by
 refine st_ext h.len fun i hi => h.old i (by rw [← h.len]; exact hi) ?_
 have := List.all_eq_true.1 hp _ (stAt_mem (by rw [← h.len]; exact hi))
 exact of_decide_eq_true this
theorem ext_all {y : Ya} {plan : List St} {free : List Int} (hp : plan.all placed = true) : Ext y plan free plan := by
 have key : ∀ i, i < plan.length → 0 ≤ (stAt plan i).ramp := fun i hi => of_decide_eq_true (List.all_eq_true.1 hp _ (stAt_mem hi))
 exact ⟨rfl, fun _ _ _ => rfl, fun i hi h => absurd (key i hi) h, fun i hi h => absurd (key i hi) h, fun i hi h => absurd (key i hi) h, fun i hi h => absurd (key i hi) h, fun i hi h => absurd (key i hi) h, fun i hi h => absurd (key i hi) h, fun i hi h => absurd (key i hi) h, fun i k hi _ _ h => absurd (key i hi) h⟩
theorem servC_some {y : Ya} {plan : List St} {free : List Int} {i : Nat} {r : Int} {q : List St × List Int} (h : servC y plan free i r = some q) :
  (ctAt y i).grams ≤ (raAt y r).bears ∧ candF y free i r + (ctAt y i).takes.hi ≤ (ctAt y i).until_ ∧ candF y free i r + (ctAt y i).takes.hi ≤ (raAt y r).shut ∧ q = (plan.set i ⟨r, candF y free i r⟩, free.set r.toNat (candF y free i r + (ctAt y i).takes.hi + y.sweep)) := by
 unfold servC at h
 split at h
 ·cases h
 ·split at h
  ·cases h
  ·split at h
   ·cases h
   ·cases h
    exact ⟨by omega, by omega, by omega, rfl⟩
theorem candF_le (y : Ya) (free : List Int) (i : Nat) (r : Int) : (ctAt y i).from_ ≤ candF y free i r ∧ (raAt y r).open_ ≤ candF y free i r ∧ tkAt free r.toNat ≤ candF y free i r := by
 unfold candF; omega
theorem ext_back {y : Ya} {plan : List St} {free : List Int} {i : Nat} {r : Int} {q : List St × List Int} {x : List St} (hy : YaV y) (h : SvOk y plan free) (hi : i < plan.length) (hu : ¬ 0 ≤ (stAt plan i).ramp) (hr : r ∈ (ctAt y i).ramps)
  (hq : servC y plan free i r = some q) (hx : Ext y q.1 q.2 x) : Ext y plan free x := by
 have hl := h.len
 have hfl := h.fl
 have c := hy.ct _ (ctAt_mem (y := y) (i := i) (by omega))
 obtain ⟨hr0, hr1⟩ := c.r r hr
 have hl0 := c.l0
 have hlh := c.lh
 have hs0 := hy.s0
 obtain ⟨a1, a2, a3, rfl⟩ := servC_some hq
 obtain ⟨b1, b2, b3⟩ := candF_le y free i r
 generalize hA : candF y free i r = A at *
 simp only at hx
 have hpi : stAt (plan.set i ⟨r, A⟩) i = ⟨r, A⟩ := by rw [stAt_set hi, if_pos rfl]
 have hpk : ∀ k, k ≠ i → stAt (plan.set i ⟨r, A⟩) k = stAt plan k := fun k hk => by rw [stAt_set hi, if_neg (fun e => hk e.symm)]
 have hxi : stAt x i = ⟨r, A⟩ := by
  rw [hx.old i (by simpa using hi) (by rw [hpi]; exact hr0), hpi]
 have hfree : ∀ z : Int, tkAt free z.toNat ≤ tkAt (free.set r.toNat (A + (ctAt y i).takes.hi + y.sweep)) z.toNat := fun z => by
  rw [tkAt_set (by omega)]
  by_cases e : r.toNat = z.toNat
  ·rw [if_pos e, ← e]; omega
  ·rw [if_neg e]; exact Int.le_refl _
 have hlen : (plan.set i ⟨r, A⟩).length = plan.length := by simp
 refine ⟨by rw [hx.len, hlen], fun k hk h0 => ?_, fun k hk h0 => ?_, fun k hk h0 => ?_, fun k hk h0 => ?_, fun k hk h0 => ?_, fun k hk h0 => ?_, fun k hk h0 => ?_, fun k hk h0 => ?_, fun j k hj hk hne h0 h1 hre => ?_⟩
 ·by_cases hki : k = i
  ·subst hki; exact absurd h0 hu
  ·rw [hx.old k (by rw [hlen]; exact hk) (by rw [hpk k hki]; exact h0), hpk k hki]
 ·by_cases hki : k = i
  ·subst hki; rw [hxi]; exact hr
  ·exact hx.r k (by rw [hlen]; exact hk) (by rw [hpk k hki]; exact h0)
 ·by_cases hki : k = i
  ·subst hki; rw [hxi]; exact a1
  ·exact hx.br k (by rw [hlen]; exact hk) (by rw [hpk k hki]; exact h0)
 ·by_cases hki : k = i
  ·subst hki; rw [hxi]; exact b1
  ·exact hx.f1 k (by rw [hlen]; exact hk) (by rw [hpk k hki]; exact h0)
 ·by_cases hki : k = i
  ·subst hki; rw [hxi]; exact b2
  ·exact hx.f2 k (by rw [hlen]; exact hk) (by rw [hpk k hki]; exact h0)
 ·by_cases hki : k = i
  ·subst hki; rw [hxi]; exact a2
  ·exact hx.f3 k (by rw [hlen]; exact hk) (by rw [hpk k hki]; exact h0)
 ·by_cases hki : k = i
  ·subst hki; rw [hxi]; exact a3
  ·exact hx.f4 k (by rw [hlen]; exact hk) (by rw [hpk k hki]; exact h0)
 ·by_cases hki : k = i
  ·subst hki; rw [hxi]; exact b3
  ·exact Int.le_trans (hfree _) (hx.fr k (by rw [hlen]; exact hk) (by rw [hpk k hki]; exact h0))
 ·by_cases hji : j = i
  ·subst hji
   have hki : k ≠ j := fun e => hne e.symm
   have := hx.fr k (by rw [hlen]; exact hk) (by rw [hpk k hki]; exact h1)
   rw [← hre, hxi, tkAt_set (by omega), if_pos rfl] at this
   rw [hxi]
   exact .inl this
  ·by_cases hki : k = i
   ·subst hki
    have := hx.fr j (by rw [hlen]; exact hj) (by rw [hpk j hji]; exact h0)
    rw [hre, hxi, tkAt_set (by omega), if_pos rfl] at this
    rw [hxi]
    exact .inr this
   ·exact hx.sep j k (by rw [hlen]; exact hj) (by rw [hlen]; exact hk) hne (by rw [hpk j hji]; exact h0) (by rw [hpk k hki]; exact h1) hre
end Go.Proofs.Ythcicaelnchfdaa

/- The best plan is found, plain. -/
namespace Go.Proofs.Ythcicaelnchfdaa
theorem lastV_le {y : Ya} {p : List St} {m : Int} : lastV y p ≤ m ↔ 0 ≤ m ∧ ∀ i, i < p.length → i < y.carts.length → (stAt p i).from_ + (ctAt y i).takes.hi ≤ m := by
 have key : ∀ (l : List Sp) (b : Int), (l.foldl (fun m s => max m s.hi) b) ≤ m ↔ b ≤ m ∧ ∀ s ∈ l, s.hi ≤ m := by
  intro l
  induction l with
  | nil => intro b; simp
  | cons s l ih =>
   intro b
   rw [List.foldl_cons, ih]
   constructor
   ·intro ⟨h1, h2⟩
    exact ⟨by omega, fun t ht => by
     rcases List.mem_cons.1 ht with rfl | ht
     ·omega
     ·exact h2 t ht⟩
   ·intro ⟨h1, h2⟩
    have := h2 s (by simp)
    exact ⟨by omega, fun t ht => h2 t (by simp [ht])⟩
 unfold lastV
 rw [key]
 constructor
 ·intro ⟨h1, h2⟩
  refine ⟨h1, fun i hi hi2 => ?_⟩
  have hm : (⟨(stAt p i).from_ + (ctAt y i).takes.lo, (stAt p i).from_ + (ctAt y i).takes.hi⟩ : Sp) ∈ awayL y p := by
   refine List.mem_map.2 ⟨(stAt p i, ctAt y i), ?_, rfl⟩
   refine List.mem_of_getElem? (i := i) ?_
   rw [List.getElem?_zip_eq_some]
   exact ⟨stAt_get hi, ctAt_get hi2⟩
  exact h2 _ hm
 ·intro ⟨h1, h2⟩
  refine ⟨h1, fun s hs => ?_⟩
  obtain ⟨⟨a, b⟩, hab, rfl⟩ := List.mem_map.1 hs
  obtain ⟨i, hi⟩ := List.getElem?_of_mem hab
  rw [List.getElem?_zip_eq_some] at hi
  obtain ⟨h3, h4⟩ := hi
  have hi1 := (List.getElem?_eq_some_iff.1 h3).1
  have hi2 := (List.getElem?_eq_some_iff.1 h4).1
  have := h2 i hi1 hi2
  rw [stAt_get hi1] at h3
  rw [ctAt_get hi2] at h4
  cases h3; cases h4
  exact this
theorem lastV_nn (y : Ya) (p : List St) : 0 ≤ lastV y p := (lastV_le.1 (Int.le_refl _)).1
theorem lastV_at {y : Ya} {p : List St} {i : Nat} (hi : i < p.length) (hi2 : i < y.carts.length) : (stAt p i).from_ + (ctAt y i).takes.hi ≤ lastV y p := (lastV_le.1 (Int.le_refl _)).2 i hi hi2
theorem first_un {plan q : List St} : un plan ≠ 0 → ∃ i, i < plan.length ∧ ¬ 0 ≤ (stAt plan i).ramp ∧ ∀ k, k < plan.length → ¬ 0 ≤ (stAt plan k).ramp → (stAt q i).from_ ≤ (stAt q k).from_ := by
 intro h
 have hex : ∃ i, i < plan.length ∧ ¬ 0 ≤ (stAt plan i).ramp := by
  have h2 : 0 < un plan := by omega
  unfold un at h2
  rw [List.countP_pos_iff] at h2
  obtain ⟨s, hs, hp⟩ := h2
  obtain ⟨i, hi⟩ := List.getElem?_of_mem hs
  have hlt := (List.getElem?_eq_some_iff.1 hi).1
  rw [stAt_get hlt] at hi
  cases hi
  refine ⟨i, hlt, fun h0 => ?_⟩
  rw [placed, decide_eq_true h0] at hp
  cases hp
 have key : ∀ n, n ≤ plan.length → (∃ i, i < n ∧ ¬ 0 ≤ (stAt plan i).ramp) → ∃ i, i < n ∧ ¬ 0 ≤ (stAt plan i).ramp ∧ ∀ k, k < n → ¬ 0 ≤ (stAt plan k).ramp → (stAt q i).from_ ≤ (stAt q k).from_ := by
  intro n
  induction n with
  | zero => intro _ ⟨i, hi, _⟩; omega
  | succ n ih =>
   intro hn ⟨i, hi, hp⟩
   by_cases hl : ∃ i, i < n ∧ ¬ 0 ≤ (stAt plan i).ramp
   ·obtain ⟨j, hj, hjp, hjm⟩ := ih (by omega) hl
    by_cases hcmp : ¬ 0 ≤ (stAt plan n).ramp ∧ (stAt q n).from_ < (stAt q j).from_
    ·refine ⟨n, by omega, hcmp.1, fun k hk hkp => ?_⟩
     rcases Nat.lt_or_ge k n with h1 | h1
     ·have := hjm k h1 hkp; omega
     ·rw [show k = n by omega]; exact Int.le_refl _
    ·refine ⟨j, by omega, hjp, fun k hk hkp => ?_⟩
     rcases Nat.lt_or_ge k n with h1 | h1
     ·exact hjm k h1 hkp
     ·rw [show k = n by omega] at hkp ⊢
      have : ¬ (stAt q n).from_ < (stAt q j).from_ := fun h => hcmp ⟨hkp, h⟩
      omega
   ·have hin : i = n := by
     rcases Nat.lt_or_ge i n with h1 | h1
     ·exact absurd ⟨i, h1, hp⟩ hl
     ·omega
    subst hin
    refine ⟨i, by omega, hp, fun k hk hkp => ?_⟩
    rcases Nat.lt_or_ge k i with h1 | h1
    ·exact absurd ⟨k, h1, hkp⟩ hl
    ·rw [show k = i by omega]; exact Int.le_refl _
 exact key plan.length (Nat.le_refl _) hex
theorem ext_step {y : Ya} {plan : List St} {free : List Int} {q : List St} (hy : YaV y) (h : SvOk y plan free) (hx : Ext y plan free q) (hu : un plan ≠ 0) :
  ∃ i r p, i < plan.length ∧ ¬ 0 ≤ (stAt plan i).ramp ∧ r ∈ (ctAt y i).ramps ∧ servC y plan free i r = some p ∧ ∃ q', Ext y p.1 p.2 q' ∧ leP y q' q := by
 obtain ⟨i, hi, hup, hmin⟩ := first_un (q := q) hu
 have hl := h.len
 have hfl := h.fl
 have hql := hx.len
 have c := hy.ct _ (ctAt_mem (y := y) (i := i) (by omega))
 have hr := hx.r i hi hup
 have hbr := hx.br i hi hup
 have h1 := hx.f1 i hi hup
 have h2 := hx.f2 i hi hup
 have h3 := hx.f3 i hi hup
 have h4 := hx.f4 i hi hup
 have h5 := hx.fr i hi hup
 obtain ⟨hr0, hr1⟩ := c.r _ hr
 have hs0 := hy.s0
 generalize hrr : (stAt q i).ramp = r at *
 have hA : candF y free i r ≤ (stAt q i).from_ := by unfold candF; omega
 obtain ⟨b1, b2, b3⟩ := candF_le y free i r
 have hsc : servC y plan free i r = some (plan.set i ⟨r, candF y free i r⟩, free.set r.toNat (candF y free i r + (ctAt y i).takes.hi + y.sweep)) := by
  unfold servC
  rw [if_neg (by omega), if_neg (by omega), if_neg (by omega)]
 refine ⟨i, r, _, hi, hup, hr, hsc, q.set i ⟨r, candF y free i r⟩, ?_, ?_⟩
 ·generalize candF y free i r = A at *
  have hpi : stAt (plan.set i ⟨r, A⟩) i = ⟨r, A⟩ := by rw [stAt_set hi, if_pos rfl]
  have hpk : ∀ k, k ≠ i → stAt (plan.set i ⟨r, A⟩) k = stAt plan k := fun k hk => by rw [stAt_set hi, if_neg (fun e => hk e.symm)]
  have hqi : stAt (q.set i ⟨r, A⟩) i = ⟨r, A⟩ := by rw [stAt_set (by omega), if_pos rfl]
  have hqk : ∀ k, k ≠ i → stAt (q.set i ⟨r, A⟩) k = stAt q k := fun k hk => by rw [stAt_set (by omega), if_neg (fun e => hk e.symm)]
  have hlen : (plan.set i ⟨r, A⟩).length = plan.length := by simp
  have hnp : ∀ k, ¬ 0 ≤ (stAt (plan.set i ⟨r, A⟩) k).ramp → k ≠ i ∧ ¬ 0 ≤ (stAt plan k).ramp := fun k hk => by
   by_cases e : k = i
   ·subst e
    rw [hpi] at hk
    exact absurd hr0 hk
   ·rw [hpk k e] at hk
    exact ⟨e, hk⟩
  show Ext y (plan.set i ⟨r, A⟩) (free.set r.toNat (A + (ctAt y i).takes.hi + y.sweep)) (q.set i ⟨r, A⟩)
  refine ⟨by simp [hql], fun k hk h0 => ?_, fun k hk h0 => ?_, fun k hk h0 => ?_, fun k hk h0 => ?_, fun k hk h0 => ?_, fun k hk h0 => ?_, fun k hk h0 => ?_, fun k hk h0 => ?_, fun j k hj hk hne h0 h1 hre => ?_⟩
  ·rw [hlen] at hk
   by_cases e : k = i
   ·subst e; rw [hqi, hpi]
   ·rw [hpk k e] at h0 ⊢
    rw [hqk k e]
    exact hx.old k (by omega) h0
  ·rw [hlen] at hk
   obtain ⟨e, h0⟩ := hnp k h0
   rw [hqk k e]; exact hx.r k (by omega) h0
  ·rw [hlen] at hk
   obtain ⟨e, h0⟩ := hnp k h0
   rw [hqk k e]; exact hx.br k (by omega) h0
  ·rw [hlen] at hk
   obtain ⟨e, h0⟩ := hnp k h0
   rw [hqk k e]; exact hx.f1 k (by omega) h0
  ·rw [hlen] at hk
   obtain ⟨e, h0⟩ := hnp k h0
   rw [hqk k e]; exact hx.f2 k (by omega) h0
  ·rw [hlen] at hk
   obtain ⟨e, h0⟩ := hnp k h0
   rw [hqk k e]; exact hx.f3 k (by omega) h0
  ·rw [hlen] at hk
   obtain ⟨e, h0⟩ := hnp k h0
   rw [hqk k e]; exact hx.f4 k (by omega) h0
  ·rw [hlen] at hk
   obtain ⟨e, h0⟩ := hnp k h0
   have hk' : k < plan.length := by omega
   rw [hqk k e, tkAt_set (by omega)]
   have ck := hy.ct _ (ctAt_mem (y := y) (i := k) (by omega))
   obtain ⟨hk0, hk1⟩ := ck.r _ (hx.r k hk' h0)
   have ckl := ck.l0
   have ckh := ck.lh
   have hm := hmin k hk' h0
   by_cases e2 : r.toNat = (stAt q k).ramp.toNat
   ·rw [if_pos e2]
    have e3 : (stAt q i).ramp = (stAt q k).ramp := by rw [hrr]; omega
    rcases hx.sep i k hi hk' (fun h => e h.symm) hup h0 e3 with h6 | h6
    ·omega
    ·omega
   ·rw [if_neg e2]; exact hx.fr k hk' h0
  ·rw [hlen] at hj hk
   obtain ⟨e, h0⟩ := hnp j h0
   obtain ⟨e', h1⟩ := hnp k h1
   rw [hqk j e, hqk k e'] at hre ⊢
   exact hx.sep j k (by omega) (by omega) hne h0 h1 hre
 ·have hlast : lastV y (q.set i ⟨r, candF y free i r⟩) ≤ lastV y q := by
   rw [lastV_le]
   refine ⟨lastV_nn y q, fun k hk hk2 => ?_⟩
   rw [stAt_set (by omega)]
   by_cases e : i = k
   ·subst e
    rw [if_pos rfl]
    have := lastV_at (y := y) (p := q) (i := i) (by omega) (by omega)
    simp only
    omega
   ·rw [if_neg e]
    exact lastV_at (by simpa using hk) hk2
  by_cases hlt : lastV y (q.set i ⟨r, candF y free i r⟩) < lastV y q
  ·exact .inl hlt
  ·refine .inr ⟨by omega, beforeB_set (by omega) ?_⟩
   cases hs : sltB (stAt q i) ⟨r, candF y free i r⟩ with
   | false => rfl
   | true =>
    rw [sltB_true, hrr] at hs
    simp only at hs
    omega
theorem fold_some {α : Type} {y : Ya} {f : Option (List St) → α → Option (List St)} {N : Nat} (hf : ∀ best a z, (∀ b, best = some b → b.length = N) → f best a = some z → z.length = N)
  (hm : ∀ best a b, (∀ b, best = some b → b.length = N) → best = some b → ∃ z, f best a = some z ∧ leP y z b) :
  ∀ (l : List α) (best : Option (List St)), (∀ b, best = some b → b.length = N) → (∀ z, l.foldl f best = some z → z.length = N) ∧ ∀ b, best = some b → ∃ z, l.foldl f best = some z ∧ leP y z b
 | [], best, hb => ⟨hb, fun b h => ⟨b, h, leP_refl y b⟩⟩
 | a :: l, best, hb => by
  have hb' : ∀ b, f best a = some b → b.length = N := fun b h => hf best a b hb h
  obtain ⟨h1, h2⟩ := fold_some hf hm l (f best a) hb'
  refine ⟨h1, fun b h => ?_⟩
  obtain ⟨z, hz, hz2⟩ := hm best a b hb h
  obtain ⟨w, hw, hw2⟩ := h2 z hz
  exact ⟨w, hw, leP_trans ((h1 w hw).trans (hb' z hz).symm) ((hb' z hz).trans (hb b h).symm) hw2 hz2⟩
theorem fold_hit {α : Type} {y : Ya} {f : Option (List St) → α → Option (List St)} {N : Nat} (hf : ∀ best a z, (∀ b, best = some b → b.length = N) → f best a = some z → z.length = N)
  (hm : ∀ best a b, (∀ b, best = some b → b.length = N) → best = some b → ∃ z, f best a = some z ∧ leP y z b) {l : List α} {a : α} (ha : a ∈ l) {x : List St} (hx : x.length = N)
  (hh : ∀ best, (∀ b, best = some b → b.length = N) → ∃ z, f best a = some z ∧ leP y z x) {best : Option (List St)} (hb : ∀ b, best = some b → b.length = N) : ∃ z, l.foldl f best = some z ∧ z.length = N ∧ leP y z x := by
 obtain ⟨l1, l2, rfl⟩ := List.append_of_mem ha
 rw [List.foldl_append, List.foldl_cons]
 have h1 := (fold_some hf hm l1 best hb).1
 obtain ⟨z, hz, hz2⟩ := hh _ h1
 have hzl := hf _ a z h1 hz
 obtain ⟨h3, h4⟩ := fold_some hf hm l2 (f (l1.foldl f best) a) (fun b h => hf _ a b h1 h)
 obtain ⟨w, hw, hw2⟩ := h4 z hz
 exact ⟨w, hw, h3 w hw, leP_trans ((h3 w hw).trans hzl.symm) (hzl.trans hx.symm) hw2 hz2⟩
theorem servR_best {y : Ya} (hy : YaV y) : ∀ (n : Nat) (plan : List St) (free : List Int), SvOk y plan free → un plan ≤ n →
  (∀ x, servR y n plan free = some x → Ext y plan free x) ∧ ∀ q, Ext y plan free q → ∃ x, servR y n plan free = some x ∧ leP y x q
 | 0, plan, free, h, hu => by
  have ha := all_un (plan := plan) (by omega)
  exact ⟨fun x hx => by cases hx; exact ext_all ha, fun q hq => ⟨plan, rfl, by rw [hq.all ha]; exact leP_refl y plan⟩⟩
 | n + 1, plan, free, h, hu => by
  cases ha : plan.all placed with
  | true =>
   rw [servR, if_pos ha]
   exact ⟨fun x hx => by cases hx; exact ext_all ha, fun q hq => ⟨plan, rfl, by rw [hq.all ha]; exact leP_refl y plan⟩⟩
  | false =>
   have hl := h.len
   have hun : un plan ≠ 0 := fun e => by rw [all_un e] at ha; cases ha
   rw [servR, if_neg (by rw [ha]; decide)]
   -- one step
   have hstep : ∀ i, i < plan.length → ¬ 0 ≤ (stAt plan i).ramp → ∀ r ∈ (ctAt y i).ramps, ∀ p, servC y plan free i r = some p → ∀ x, servR y n p.1 p.2 = some x → Ext y plan free x := fun i hi hp r hr p hpq x hx => by
    have c := hy.ct _ (ctAt_mem (y := y) (i := i) (by omega))
    obtain ⟨hr0, hr1⟩ := c.r r hr
    have hok := servC_ok hy h hi hr0 hr1 hpq
    have hue := servC_un hi hr0 hp hpq
    exact ext_back hy h hi hp hr hpq ((servR_best hy n p.1 p.2 hok (by omega)).1 x hx)
   constructor
   ·intro x hx
    refine fold_inv (p := fun best : Option (List St) => ∀ b, best = some b → Ext y plan free b) (fun b hb => by cases hb) (fun i hi best hb => ?_) x hx
    unfold stepI
    split
    ·exact hb
    ·rename_i hp
     refine fold_inv (p := fun best : Option (List St) => ∀ b, best = some b → Ext y plan free b) hb fun r hr best hbest b hbs => ?_
     unfold stepK at hbs
     split at hbs
     ·exact hbest b hbs
     ·rename_i q hq
      split at hbs
      ·exact hbest b hbs
      ·rename_i z hz
       rcases better_some hbs with rfl | h2
       ·exact hstep i (List.mem_range.1 hi) hp r hr q hq _ hz
       ·exact hbest b h2
   ·intro q hq
    obtain ⟨i, r, p, hi, hp, hr, hpq, q', hq', hle⟩ := ext_step hy h hq hun
    have c := hy.ct _ (ctAt_mem (y := y) (i := i) (by omega))
    obtain ⟨hr0, hr1⟩ := c.r r hr
    have hok := servC_ok hy h hi hr0 hr1 hpq
    have hue := servC_un hi hr0 hp hpq
    obtain ⟨x, hx, hxq⟩ := (servR_best hy n p.1 p.2 hok (by omega)).2 q' hq'
    have hxl : x.length = plan.length := (hstep i hi hp r hr p hpq x hx).len
    have hql : q'.length = plan.length := by rw [hq'.len, hok.len, hl]
    -- all steps keep the length, and never worsen
    have kf : ∀ j, ∀ (best : Option (List St)) (r : Int) (z : List St), (∀ b, best = some b → b.length = plan.length) → stepK y (servR y n) plan free j best r = some z → (j < plan.length → ¬ 0 ≤ (stAt plan j).ramp → r ∈ (ctAt y j).ramps → z.length = plan.length) := by
     intro j best r z hb hz hj hjp hjr
     unfold stepK at hz
     split at hz
     ·exact hb z hz
     ·rename_i q2 hq2
      split at hz
      ·exact hb z hz
      ·rename_i z2 hz2
       rcases better_some hz with rfl | h2
       ·exact (hstep j hj hjp r hjr q2 hq2 _ hz2).len
       ·exact hb z h2
    have km : ∀ j, j < plan.length → ¬ 0 ≤ (stAt plan j).ramp → ∀ (best : Option (List St)) (r : Int) (b : List St), r ∈ (ctAt y j).ramps → (∀ b, best = some b → b.length = plan.length) → best = some b → ∃ z, stepK y (servR y n) plan free j best r = some z ∧ leP y z b := by
     intro j hj hjp best r b hjr hb hbb
     unfold stepK
     split
     ·exact ⟨b, hbb, leP_refl y b⟩
     ·rename_i q2 hq2
      split
      ·exact ⟨b, hbb, leP_refl y b⟩
      ·rename_i z2 hz2
       have hl2 := (hstep j hj hjp r hjr q2 hq2 _ hz2).len
       obtain ⟨z, h1, h2, h3⟩ := better_le (y := y) (best := best) (x := z2) (fun b h => by rw [hb b h, hl2])
       exact ⟨z, h1, h3 b hbb⟩
    -- the same for a cart's ramps; ramps are taken with their membership
    have If : ∀ (best : Option (List St)) (j : {j // j < plan.length}) (z : List St), (∀ b, best = some b → b.length = plan.length) → stepI y (servR y n) plan free best j.1 = some z → z.length = plan.length := by
     intro best j z hb hz
     unfold stepI at hz
     split at hz
     ·exact hb z hz
     ·rename_i hjp
      exact fold_inv (p := fun best : Option (List St) => ∀ b, best = some b → b.length = plan.length) hb (fun r hr best hbest b hbs => kf j.1 best r b hbest hbs j.2 hjp hr) z hz
    have hattach : ∀ (j : Nat), j < plan.length → ¬ 0 ≤ (stAt plan j).ramp → ∀ best : Option (List St), (ctAt y j).ramps.foldl (stepK y (servR y n) plan free j) best = (ctAt y j).ramps.attach.foldl (fun best r => stepK y (servR y n) plan free j best r.1) best := fun j _ _ best => by
     rw [List.foldl_attach]
    have Im : ∀ (best : Option (List St)) (j : {j // j < plan.length}) (b : List St), (∀ b, best = some b → b.length = plan.length) → best = some b → ∃ z, stepI y (servR y n) plan free best j.1 = some z ∧ leP y z b := by
     intro best j b hb hbb
     unfold stepI
     split
     ·exact ⟨b, hbb, leP_refl y b⟩
     ·rename_i hjp
      rw [hattach j.1 j.2 hjp]
      exact (fold_some (y := y) (N := plan.length) (f := fun best (r : {r // r ∈ (ctAt y j.1).ramps}) => stepK y (servR y n) plan free j.1 best r.1) (fun best r z hb hz => kf j.1 best r.1 z hb hz j.2 hjp r.2)
       (fun best r b hb hbb => km j.1 j.2 hjp best r.1 b r.2 hb hbb) _ best hb).2 b hbb
    have hIi : ∀ best : Option (List St), (∀ b, best = some b → b.length = plan.length) → ∃ z, stepI y (servR y n) plan free best i = some z ∧ leP y z x := by
     intro best hb
     unfold stepI
     rw [if_neg hp, hattach i hi hp]
     obtain ⟨z, h1, _, h2⟩ := fold_hit (y := y) (N := plan.length) (f := fun best (r : {r // r ∈ (ctAt y i).ramps}) => stepK y (servR y n) plan free i best r.1) (fun best r z hb hz => kf i best r.1 z hb hz hi hp r.2)
       (fun best r b hb hbb => km i hi hp best r.1 b r.2 hb hbb) (List.mem_attach _ ⟨r, hr⟩) hxl (fun best hb => by
        simp only [stepK, hpq, hx]
        obtain ⟨z, h1, h2, h3⟩ := better_le (y := y) (best := best) (x := x) (fun b h => by rw [hb b h, hxl])
        exact ⟨z, h1, h2⟩) hb
     exact ⟨z, h1, h2⟩
    obtain ⟨L, hL1, hL2⟩ : ∃ L : List {j // j < plan.length}, (List.range plan.length).foldl (stepI y (servR y n) plan free) none = L.foldl (fun best j => stepI y (servR y n) plan free best j.1) none ∧ (⟨i, hi⟩ : {j // j < plan.length}) ∈ L :=
     ⟨(List.range plan.length).attach.map (fun j => ⟨j.1, List.mem_range.1 j.2⟩), by rw [List.foldl_map, List.foldl_attach], List.mem_map.2 ⟨⟨i, List.mem_range.2 hi⟩, List.mem_attach _ _, rfl⟩⟩
    rw [hL1]
    obtain ⟨z, h1, hzl, h2⟩ := fold_hit (y := y) (N := plan.length) (f := fun best (j : {j // j < plan.length}) => stepI y (servR y n) plan free best j.1) If Im hL2 hxl hIi (best := none) (fun b h => by cases h)
    exact ⟨z, h1, leP_trans (hzl.trans hql.symm) (hql.trans hq.len.symm) (leP_trans (hzl.trans hxl.symm) (hxl.trans hql.symm) h2 hxq) hle⟩
end Go.Proofs.Ythcicaelnchfdaa

/- Sets of carts as numbers, plain. -/
namespace Go.Proofs.Ythcicaelnchfdaa
def sdiff (a b : Nat) : Nat := a ^^^ (a &&& b)
def bitsL (s : Nat) : List Nat := (List.range 7).filter fun i => s.testBit i
theorem sdiff_bit (a b i : Nat) : (sdiff a b).testBit i = (a.testBit i && !b.testBit i) := by
 simp only [sdiff, Nat.testBit_xor, Nat.testBit_and]
 cases a.testBit i <;> cases b.testBit i <;> rfl
theorem sdiff_lt {a b n : Nat} (h : a < 2 ^ n) : sdiff a b < 2 ^ n :=
 Nat.xor_lt_two_pow h (Nat.lt_of_le_of_lt Nat.and_le_left h)
theorem sdiff_le (a b : Nat) : sdiff a b ≤ a := by
 have h : sdiff a b = sdiff a b &&& a := by
  apply Nat.eq_of_testBit_eq
  intro i
  rw [Nat.testBit_and, sdiff_bit]
  cases a.testBit i <;> simp
 rw [h]
 exact Nat.and_le_right
theorem mem_bitsL {s i : Nat} (h : s < 128) : i ∈ bitsL s ↔ s.testBit i = true := by
 unfold bitsL
 rw [List.mem_filter, List.mem_range]
 constructor
 ·exact fun h => h.2
 ·intro h2
  refine ⟨?_, h2⟩
  rcases Nat.lt_or_ge i 7 with h3 | h3
  ·exact h3
  ·have : s.testBit i = false := Nat.testBit_lt_two_pow (Nat.lt_of_lt_of_le h (by
    have := Nat.pow_le_pow_right (n := 2) (by decide) h3
    omega))
   rw [this] at h2; cases h2
theorem bitsL_len {s : Nat} : (bitsL s).length ≤ 7 := Nat.le_trans (List.length_filter_le _ _) (by simp)
def subsTo (s p : Nat) : List Nat := (List.range (p + 1)).reverse.filter fun q => q &&& s == q
def subB (s p : Nat) : Bool := !(p &&& s == p) || (p == 0) || (List.range p).all fun q => !(q &&& s == q) || Nat.ble q ((p - 1) &&& s)
set_option maxRecDepth 100000 in
theorem sub_all : (List.range 128).all (fun s => (List.range 128).all fun p => subB s p) = true := by decide +kernel
theorem sub_next {s p q : Nat} (hs : s < 128) (hp : p < 128) (h : p &&& s = p) (h0 : 0 < p) (hq : q < p) (hqs : q &&& s = q) : q ≤ (p - 1) &&& s := by
 have h1 := List.all_eq_true.1 (List.all_eq_true.1 sub_all s (List.mem_range.2 hs)) p (List.mem_range.2 hp)
 unfold subB at h1
 have e1 : (p &&& s == p) = true := by simp [h]
 have e2 : (p == 0) = false := by simp; omega
 rw [e1, e2] at h1
 simp only [Bool.not_true, Bool.false_or] at h1
 have h2 := List.all_eq_true.1 h1 q (List.mem_range.2 hq)
 have e3 : (q &&& s == q) = true := by simp [hqs]
 rw [e3] at h2
 simpa [Nat.ble_eq] using h2
theorem subsTo_zero (s : Nat) : subsTo s 0 = [0] := by simp [subsTo]
theorem subsTo_next {s p : Nat} (hs : s < 128) (hp : p < 128) (h : p &&& s = p) (h0 : 0 < p) : subsTo s p = p :: subsTo s ((p - 1) &&& s) := by
 have hle : (p - 1) &&& s ≤ p - 1 := Nat.and_le_left
 unfold subsTo
 rw [List.range_succ, List.reverse_append, List.reverse_cons, List.reverse_nil, List.nil_append, List.singleton_append, List.filter_cons_of_pos (by simp [h])]
 congr 1
 have hsp : List.range p = List.range (((p - 1) &&& s) + 1) ++ List.range' (((p - 1) &&& s) + 1) (p - 1 - ((p - 1) &&& s)) := by
  rw [List.range_eq_range', List.range_eq_range']
  have := List.range'_append_1 (s := 0) (m := ((p - 1) &&& s) + 1) (n := p - 1 - ((p - 1) &&& s))
  rw [Nat.zero_add] at this
  rw [this]
  congr 1
  omega
 rw [hsp, List.reverse_append, List.filter_append, List.filter_eq_nil_iff.2, List.nil_append]
 intro q hq
 rw [List.mem_reverse, List.mem_range'_1] at hq
 intro hqs
 have := sub_next hs hp h h0 (q := q) (by omega) (by simpa using hqs)
 omega
theorem mem_subsTo {s q : Nat} : q ∈ subsTo s s ↔ q &&& s = q := by
 unfold subsTo
 rw [List.mem_filter, List.mem_reverse, List.mem_range]
 constructor
 ·intro ⟨_, h⟩; simpa using h
 ·intro h
  refine ⟨?_, by simpa using h⟩
  have : q &&& s ≤ s := Nat.and_le_right
  omega
end Go.Proofs.Ythcicaelnchfdaa

/- The machine on values: sets of carts. (Vm) -/
namespace Go.Proofs.Ythcicaelnchfdaa.Vm
open Go Go.Proofs
section
variable (t : Nat) (a b : Nat)
theorem bin_pure {op : BinOp} {k k' : IntKind} {x y z : Int} (h : Go.binOp op 0 (.int k x) (.int k' y) = .pure (.int k z)) : vbin T op t (.p (.int k x)) (.p (.int k' y)) = some (.p (.int k z)) := by
 simp only [vbin, h, pureOf, Option.map_some, ofValue]
theorem u8_and (ha : a < 256) (hb : b < 256) : vbin T .and t (su a) (su b) = some (su (a &&& b)) := by
 refine bin_pure t ?_
 show Op.intBits .and .u8 a b = _
 have h1 : (BitVec.ofInt 8 (a : Int) &&& BitVec.ofInt 8 (b : Int)).toNat = a &&& b := by
  rw [BitVec.ofInt_natCast, BitVec.ofInt_natCast, BitVec.toNat_and, BitVec.toNat_ofNat, BitVec.toNat_ofNat, Nat.mod_eq_of_lt (by omega), Nat.mod_eq_of_lt (by omega)]
 have h2 : a &&& b ≤ a := Nat.and_le_left
 show Sem.pure (Value.int .u8 (IntKind.u8.wrap (((BitVec.ofInt 8 (a : Int) &&& BitVec.ofInt 8 (b : Int)).toNat : Nat) : Int))) = _
 rw [h1, IntWalk.u8_in _ (by omega)]
theorem u8_or (ha : a < 256) (hb : b < 256) : vbin T .or t (su a) (su b) = some (su (a ||| b)) := by
 refine bin_pure t ?_
 show Op.intBits .or .u8 a b = _
 have h1 : (BitVec.ofInt 8 (a : Int) ||| BitVec.ofInt 8 (b : Int)).toNat = a ||| b := by
  rw [BitVec.ofInt_natCast, BitVec.ofInt_natCast, BitVec.toNat_or, BitVec.toNat_ofNat, BitVec.toNat_ofNat, Nat.mod_eq_of_lt (by omega), Nat.mod_eq_of_lt (by omega)]
 have h2 : a ||| b < 2 ^ 8 := Nat.or_lt_two_pow ha hb
 show Sem.pure (Value.int .u8 (IntKind.u8.wrap (((BitVec.ofInt 8 (a : Int) ||| BitVec.ofInt 8 (b : Int)).toNat : Nat) : Int))) = _
 rw [h1, IntWalk.u8_in _ (by omega)]
theorem bv_andNot {n : Nat} (x y : BitVec n) : x &&& ~~~y = x ^^^ (x &&& y) := by
 apply BitVec.eq_of_getLsbD_eq
 intro i hi
 simp only [BitVec.getLsbD_and, BitVec.getLsbD_not, BitVec.getLsbD_xor]
 cases x.getLsbD i <;> cases y.getLsbD i <;> simp [hi]
theorem u8_andNot (ha : a < 256) (hb : b < 256) : vbin T .andNot t (su a) (su b) = some (su (sdiff a b)) := by
 refine bin_pure t ?_
 show Op.intBits .andNot .u8 a b = _
 have h1 : (BitVec.ofInt 8 (a : Int) &&& ~~~ BitVec.ofInt 8 (b : Int)).toNat = sdiff a b := by
  rw [bv_andNot, BitVec.ofInt_natCast, BitVec.ofInt_natCast, BitVec.toNat_xor, BitVec.toNat_and, BitVec.toNat_ofNat, BitVec.toNat_ofNat, Nat.mod_eq_of_lt (by omega), Nat.mod_eq_of_lt (by omega)]
  rfl
 have h2 := sdiff_le a b
 show Sem.pure (Value.int .u8 (IntKind.u8.wrap (((BitVec.ofInt 8 (a : Int) &&& ~~~ BitVec.ofInt 8 (b : Int)).toNat : Nat) : Int))) = _
 rw [h1, IntWalk.u8_in _ (by omega)]
theorem i_and (ha : a < 1000000) (hb : b < 1000000) : vbin T .and t (vi a) (vi b) = some (vi ((a &&& b : Nat) : Int)) := by
 refine bin_pure t ?_
 show Op.intBits .and .i64 a b = _
 have h1 : (BitVec.ofInt 64 (a : Int) &&& BitVec.ofInt 64 (b : Int)).toNat = a &&& b := by
  rw [BitVec.ofInt_natCast, BitVec.ofInt_natCast, BitVec.toNat_and, BitVec.toNat_ofNat, BitVec.toNat_ofNat, Nat.mod_eq_of_lt (by omega), Nat.mod_eq_of_lt (by omega)]
 have h2 : a &&& b ≤ a := Nat.and_le_left
 show Sem.pure (Value.int .i64 (IntKind.i64.wrap (((BitVec.ofInt 64 (a : Int) &&& BitVec.ofInt 64 (b : Int)).toNat : Nat) : Int))) = _
 rw [h1, IntWalk.i64_in _ (by omega)]
theorem i_andNot (ha : a < 1000000) (hb : b < 1000000) : vbin T .andNot t (vi a) (vi b) = some (vi ((sdiff a b : Nat) : Int)) := by
 refine bin_pure t ?_
 show Op.intBits .andNot .i64 a b = _
 have h1 : (BitVec.ofInt 64 (a : Int) &&& ~~~ BitVec.ofInt 64 (b : Int)).toNat = sdiff a b := by
  rw [bv_andNot, BitVec.ofInt_natCast, BitVec.ofInt_natCast, BitVec.toNat_xor, BitVec.toNat_and, BitVec.toNat_ofNat, BitVec.toNat_ofNat, Nat.mod_eq_of_lt (by omega), Nat.mod_eq_of_lt (by omega)]
  rfl
 have h2 := sdiff_le a b
 show Sem.pure (Value.int .i64 (IntKind.i64.wrap (((BitVec.ofInt 64 (a : Int) &&& ~~~ BitVec.ofInt 64 (b : Int)).toNat : Nat) : Int))) = _
 rw [h1, IntWalk.i64_in _ (by omega)]
theorem u8_shr (c : Nat) (hc : c ≤ 8) : vbin T .shr t (su a) (vi c) = some (su (a >>> c)) := by
 refine bin_pure t ?_
 show Op.shift .shr .u8 a .i64 c = _
 unfold Op.shift
 rw [if_neg (by omega)]
 have h1 : min ((c : Int).toNat) (IntKind.bits .u8) = c := by
  show min ((c : Int).toNat) 8 = c
  omega
 simp only [h1]
 rw [Int.fdiv_eq_ediv_of_nonneg _ (Int.pow_nonneg (by decide)), Nat.shiftRight_eq_div_pow]
 norm_cast
theorem u8_shl (c : Nat) (hc : c ≤ 7) : vbin T .shl t (su 1) (vi c) = some (su (2 ^ c)) := by
 refine bin_pure t ?_
 show Op.shift .shl .u8 1 .i64 c = _
 unfold Op.shift
 rw [if_neg (by omega)]
 have h1 : min ((c : Int).toNat) (IntKind.bits .u8) = c := by
  show min ((c : Int).toNat) 8 = c
  omega
 simp only [h1]
 have h2 : 2 ^ c ≤ 2 ^ 7 := Nat.pow_le_pow_right (by decide) hc
 have h3 : (1 : Int) * 2 ^ c = ((2 ^ c : Nat) : Int) := by norm_cast; omega
 rw [h3]
 generalize (2 ^ c : Nat) = p at h2 ⊢
 rw [IntWalk.u8_in _ (by omega)]
 rfl
theorem i_shl (c : Nat) (hc : c ≤ 7) : vbin T .shl t (vi 1) (vi c) = some (vi ((2 ^ c : Nat) : Int)) := by
 refine bin_pure t ?_
 show Op.shift .shl .i64 1 .i64 c = _
 unfold Op.shift
 rw [if_neg (by omega)]
 have h1 : min ((c : Int).toNat) (IntKind.bits .i64) = c := by
  show min ((c : Int).toNat) 64 = c
  omega
 simp only [h1]
 have h2 : 2 ^ c ≤ 2 ^ 7 := Nat.pow_le_pow_right (by decide) hc
 have h3 : (1 : Int) * 2 ^ c = ((2 ^ c : Nat) : Int) := by norm_cast; omega
 rw [h3]
 generalize (2 ^ c : Nat) = p at h2 ⊢
 rw [IntWalk.i64_in _ (by omega)]
 rfl
theorem u8_add (h : a + b < 256) : vbin T .add t (su a) (su b) = some (su (a + b)) := by
 refine bin_pure t ?_
 show Sem.pure (Value.int .u8 (IntKind.u8.wrap ((a : Int) + b))) = _
 rw [IntWalk.u8_in _ (by omega)]
 norm_cast
theorem u8_sub (h : b ≤ a) (ha : a < 256) : vbin T .sub t (su a) (su b) = some (su (a - b)) := by
 refine bin_pure t ?_
 show Sem.pure (Value.int .u8 (IntKind.u8.wrap ((a : Int) - b))) = _
 rw [IntWalk.u8_in _ (by omega), show (a : Int) - b = ((a - b : Nat) : Int) by omega]
theorem u8_eql : vbin T .eql t (su a) (su b) = some (vb (decide (a = b))) := by
 have h : Go.binOp .eql 0 (.int .u8 a) (.int .u8 b) = .pure (.bool (decide ((a : Int) = b))) := rfl
 simp only [vbin, h, pureOf, Option.map_some, ofValue]
 by_cases e : a = b
 ·rw [decide_eq_true e, decide_eq_true (by omega)]
 ·rw [decide_eq_false e, decide_eq_false (by omega)]
theorem u8_gtr : vbin T .gtr t (su a) (su b) = some (vb (decide (b < a))) := by
 have h : Go.binOp .gtr 0 (.int .u8 a) (.int .u8 b) = .pure (.bool (decide ((a : Int) > b))) := rfl
 simp only [vbin, h, pureOf, Option.map_some, ofValue]
 by_cases e : b < a
 ·rw [decide_eq_true e, decide_eq_true (by omega)]
 ·rw [decide_eq_false e, decide_eq_false (by omega)]
theorem c_us : vconvert T 91 3 (su a) = if a < 256 then some (vi a) else vconvert T 91 3 (su a) := by
 by_cases h : a < 256
 ·rw [if_pos h]
  simp only [vconvert, t_set, t_int]
  show (pureOf (Conv.intToInt .i64 (a : Int))).map ofValue = _
  have : Conv.intToInt .i64 (a : Int) = .pure (.int .i64 (IntKind.i64.wrap a)) := rfl
  rw [this, IntWalk.i64_in _ (by omega)]
  rfl
 ·rw [if_neg h]
theorem c_su (ha : a < 256) : vconvert T 3 91 (vi a) = some (su a) := by
 simp only [vconvert, t_set, t_int]
 have : Conv.intToInt .u8 (a : Int) = .pure (.int .u8 (IntKind.u8.wrap a)) := rfl
 rw [this, IntWalk.u8_in _ (by omega)]
 rfl
theorem c_si (ha : a < 256) : vconvert T 91 3 (su a) = some (vi a) := by
 rw [c_us, if_pos ha]
theorem idx_su : idx (su a) = some a := by
 have : (0 : Int) ≤ (a : Int) := Int.natCast_nonneg a
 simp [idx, this]
end
end Go.Proofs.Ythcicaelnchfdaa.Vm
