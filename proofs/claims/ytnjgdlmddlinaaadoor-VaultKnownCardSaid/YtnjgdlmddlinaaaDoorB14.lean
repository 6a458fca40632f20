/- A part of the proofs about the chapter of the vaults; it states no condition of its own. -/
import Derived.Test.YtnjgdlmddlinaaaDoorB11
import Derived.Test.YtnjgdlmddlinaaaDoorRows
import Derived.OpenShut
import Derived.Deep.RegionHeld3
import Derived.Deep.DrawnRows
import Derived.Deep.QuietTactic
import Derived.BigQuiet
set_option linter.unusedVariables false
set_option linter.unusedSimpArgs false
/- The data of halls and layouts, and how they lie in memory. -/
namespace Go.Proofs.YtnjgdlmddlinaaaDoor
open Go.RowKit

structure Pl where (x y : Int) deriving DecidableEq
structure Sp where (lo hi : Int) deriving DecidableEq
structure Pu where (pl : Pl) (kind : Int) deriving DecidableEq
structure Ki where (lo hi : Int) (water : Bool) (away : List Int) (rent most : Int) deriving DecidableEq
structure RK where (lo hi : Int) (water : Bool) (aA : Option Addr) (an ac : Nat) (rent most : Int)
structure Ha where (wide deep : Int) (water shut : List Pl) (bay : Pl) (bears : List Int) (kinds : List Ki) deriving DecidableEq
def plC (p : Pl) : List Value := [.int .i64 p.x, .int .i64 p.y]
def RK.av (r : RK) : Value := .slice r.aA r.an r.ac
def rkC (r : RK) : List Value := [.int .i64 r.lo, .int .i64 r.hi, .bool r.water, r.av, .int .i64 r.rent, .int .i64 r.most]
def KiAt (w : World) (B : Nat) (raws : List RK) (ks : List Ki) : Prop :=
 raws.length = ks.length ∧ ∀ (i : Nat) (r : RK) (k : Ki), raws[i]? = some r → ks[i]? = some k → r.lo = k.lo ∧ r.hi = k.hi ∧ r.water = k.water ∧ r.rent = k.rent ∧ r.most = k.most ∧ Sl w B 1 intC r.av k.away
theorem KiAt.below {w w' : World} {B B0 B' : Nat} {raws : List RK} {ks : List Ki} (h : KiAt w B raws ks) (hb : Below B0 w w') (hB : B ≤ B0) (hB' : B ≤ B') : KiAt w' B' raws ks :=
 ⟨h.1, fun i r k hr hk => by obtain ⟨a, b, c, d, e, f⟩ := h.2 i r k hr hk; exact ⟨a, b, c, d, e, f.below hb hB hB'⟩⟩
def haC (wide deep : Int) (vw vs : Value) (bx by_ : Int) (vb vk : Value) : Array Value := #[.int .i64 wide, .int .i64 deep, vw, vs, .int .i64 bx, .int .i64 by_, vb, vk]
structure HaAt (w : World) (B : Nat) (h : Ha) (vw vs vb vk : Value) (raws : List RK) : Prop where
 water : Sl w B 2 plC vw h.water
 shut : Sl w B 2 plC vs h.shut
 bears : Sl w B 1 intC vb h.bears
 kraws : Sl w B 6 rkC vk raws
 kinds : KiAt w B raws h.kinds
theorem HaAt.below {w w' : World} {B B0 B' : Nat} {h : Ha} {vw vs vb vk : Value} {raws : List RK} (H : HaAt w B h vw vs vb vk raws) (hb : Below B0 w w') (hB : B ≤ B0) (hB' : B ≤ B') : HaAt w' B' h vw vs vb vk raws :=
 ⟨H.water.below hb hB hB', H.shut.below hb hB hB', H.bears.below hb hB hB', H.kraws.below hb hB hB', H.kinds.below hb hB hB'⟩
theorem HaAt.drew {w : World} {B : Nat} {h : Ha} {vw vs vb vk : Value} {raws : List RK} (H : HaAt w B h vw vs vb vk raws) : HaAt w.drew B h vw vs vb vk raws := ⟨H.water, H.shut, H.bears, H.kraws, H.kinds⟩
def HaV (w : World) (B : Nat) (v : Value) (h : Ha) : Prop := ∃ vw vs vb vk raws, v = .agg (haC h.wide h.deep vw vs h.bay.x h.bay.y vb vk) ∧ HaAt w B h vw vs vb vk raws
theorem HaV.below {w w' : World} {B B0 B' : Nat} {v : Value} {h : Ha} (H : HaV w B v h) (hb : Below B0 w w') (hB : B ≤ B0) (hB' : B ≤ B') : HaV w' B' v h := by
 obtain ⟨vw, vs, vb, vk, raws, e, H⟩ := H
 exact ⟨vw, vs, vb, vk, raws, e, H.below hb hB hB'⟩
end Go.Proofs.YtnjgdlmddlinaaaDoor

/- What the chapter's functions compute, in plain Lean: no program in sight. -/
namespace Go.Proofs.YtnjgdlmddlinaaaDoor

open Go.RowKit
theorem Sl.drew {α : Type} {w : World} {B k : Nat} {enc : α → List Value} {v : Value} {xs : List α} (h : Sl w B k enc v xs) : Sl w.drew B k enc v xs := h
theorem Sl.drewN {α : Type} {w : World} {B k : Nat} {enc : α → List Value} {v : Value} {xs : List α} (h : Sl w B k enc v xs) (n : Nat) : Sl (w.drewN n) B k enc v xs := h
theorem Sl.get {α : Type} {w : World} {B k n c : Nat} {enc : α → List Value} {A : Option Addr} {xs : List α} (h : Sl w B k enc (.slice A n c) xs) {i : Nat} (hi : i < xs.length) :
  ∃ b off, A = some ⟨b, off, none⟩ ∧ b < B ∧ ∀ j u, (enc xs[i])[j]? = some u → w.cell? ⟨b, off + i * k + j, none⟩ = some u := by
 obtain ⟨A', c', he, h1, h2, h3⟩ := h
 cases he
 obtain ⟨b, off, rfl, hb, h4⟩ := h3 (by omega)
 exact ⟨b, off, rfl, hb, h4 i _ (List.getElem?_eq_getElem hi)⟩
theorem HaAt.kind {w : World} {B n c : Nat} {h : Ha} {vw vs vb : Value} {A : Option Addr} {raws : List RK} (H : HaAt w B h vw vs vb (.slice A n c) raws) {q : Nat} (hq : q < h.kinds.length) :
  ∃ b o aA an ac, A = some ⟨b, o, none⟩ ∧ b < B ∧ w.cell? ⟨b, o + q * 6, none⟩ = some (.int .i64 h.kinds[q].lo) ∧ w.cell? ⟨b, o + q * 6 + 1, none⟩ = some (.int .i64 h.kinds[q].hi) ∧ w.cell? ⟨b, o + q * 6 + 2, none⟩ = some (.bool h.kinds[q].water) ∧
   w.cell? ⟨b, o + q * 6 + 3, none⟩ = some (.slice aA an ac) ∧ w.cell? ⟨b, o + q * 6 + 4, none⟩ = some (.int .i64 h.kinds[q].rent) ∧ w.cell? ⟨b, o + q * 6 + 5, none⟩ = some (.int .i64 h.kinds[q].most) ∧ Sl w B 1 intC (.slice aA an ac) h.kinds[q].away := by
 have hltr : q < raws.length := by rw [H.kinds.1]; exact hq
 obtain ⟨b1, o1, hA, hb1, q1⟩ := H.kraws.get hltr
 obtain ⟨f1, f2, f3, f4, f5, f6⟩ := H.kinds.2 q raws[q] h.kinds[q] (List.getElem?_eq_getElem hltr) (List.getElem?_eq_getElem hq)
 refine ⟨b1, o1, raws[q].aA, raws[q].an, raws[q].ac, hA, hb1, ?_, ?_, ?_, ?_, ?_, ?_, f6⟩
 ·rw [← f1]; simpa using q1 0 _ rfl
 ·rw [← f2]; simpa using q1 1 _ rfl
 ·rw [← f3]; simpa using q1 2 _ rfl
 ·exact q1 3 _ rfl
 ·rw [← f4]; simpa using q1 4 _ rfl
 ·rw [← f5]; simpa using q1 5 _ rfl
def firstErr (f : Nat → Int) : Nat → Int
 | 0 => 0
 | n + 1 => if firstErr f n ≠ 0 then firstErr f n else f n
theorem firstErr_zero {f : Nat → Int} : ∀ {n : Nat}, firstErr f n = 0 ↔ ∀ i, i < n → f i = 0
 | 0 => by simp [firstErr]
 | n + 1 => by
  have ih := firstErr_zero (f := f) (n := n)
  unfold firstErr
  split
  ·rename_i h
   constructor
   ·intro h'; exact absurd h' h
   ·intro h'; exact absurd (ih.2 fun i hi => h' i (by omega)) h
  ·rename_i h
   simp at h
   constructor
   ·intro h' i hi
    rcases Nat.lt_or_ge i n with hlt | hge
    ·exact ih.1 h i hlt
    ·obtain rfl : i = n := by omega
     exact h'
   ·intro h'; exact h' n (by omega)
theorem firstErr_hit {f : Nat → Int} {k : Nat} (h0 : firstErr f k = 0) (hk : f k ≠ 0) : ∀ {n : Nat}, k < n → firstErr f n = f k
 | 0, h => by omega
 | n + 1, h => by
  unfold firstErr
  rcases Nat.lt_or_ge k n with hlt | hge
  ·rw [firstErr_hit h0 hk hlt, if_pos hk]
  ·obtain rfl : k = n := by omega
   rw [if_neg (by simp [h0])]
theorem firstErr_step {f : Nat → Int} {k : Nat} (h0 : firstErr f k = 0) (hk : f k = 0) : firstErr f (k + 1) = 0 := by
 unfold firstErr; rw [if_neg (by simp [h0]), hk]

def inR (n lo hi : Int) : Bool := decide (lo ≤ n ∧ n ≤ hi)
def isPl (h : Ha) (c : Pl) : Bool := inR c.x 0 (h.wide - 1) && inR c.y 0 (h.deep - 1)
def hasPl (l : List Pl) (c : Pl) : Bool := l.contains c
def cellErr (h : Ha) (l : List Pl) (k : Nat) : Int := match l[k]? with
 | some c => if !isPl h c then 3 else if hasPl (l.take k) c then 4 else 0
 | none => 0
def cellsErr (h : Ha) (l : List Pl) : Int := if 24 < l.length then 6 else firstErr (cellErr h l) l.length
def colsOf (h : Ha) : Int := (h.wide + h.bay.x - 1) / h.bay.x
def baysOf (h : Ha) : Int := colsOf h * ((h.deep + h.bay.y - 1) / h.bay.y)
def bayOf (h : Ha) (c : Pl) : Int := c.y / h.bay.y * colsOf h + c.x / h.bay.x
def kindErr (h : Ha) (k : Ki) : Int :=
 if !inR k.lo 0 1000000 || !inR k.hi 0 1000000 then 1
 else if k.hi < k.lo then 5
 else if k.away.length ≠ h.kinds.length then 2
 else if k.away.any (fun n => !inR n 0 9) then 1
 else if !inR k.rent 0 1000000 || !inR k.most 0 24 then 1 else 0
def kindErrAt (h : Ha) (i : Nat) : Int := match h.kinds[i]? with
 | some k => kindErr h k
 | none => 0
def hallErr (h : Ha) : Int :=
 if !inR h.wide 1 6 || !inR h.deep 1 4 then 1
 else if cellsErr h h.water ≠ 0 then cellsErr h h.water
 else if cellsErr h h.shut ≠ 0 then cellsErr h h.shut
 else if !inR h.bay.x 1 h.wide || !inR h.bay.y 1 h.deep then 1
 else if (h.bears.length : Int) ≠ baysOf h then 2
 else if h.bears.any (fun n => !inR n 0 10000000) then 1
 else if h.kinds.length = 0 then 7
 else if 6 < h.kinds.length then 6
 else firstErr (kindErrAt h) h.kinds.length

theorem div_up {n b : Int} (hb : 1 ≤ b) : (n + b - 1) / b = (n - 1) / b + 1 := by
 rw [show n + b - 1 = (n - 1) + b from by omega, Int.add_ediv_of_dvd_right (Int.dvd_refl b), Int.ediv_self (by omega)]
theorem bays_eq {h : Ha} (hx : 1 ≤ h.bay.x) (hy : 1 ≤ h.bay.y) : bayOf h ⟨h.wide - 1, h.deep - 1⟩ + 1 = baysOf h := by
 unfold bayOf baysOf colsOf
 rw [div_up hx, div_up hy]
 simp only [Int.add_mul, Int.mul_add]
 have := Int.mul_comm ((h.deep - 1) / h.bay.y) ((h.wide - 1) / h.bay.x)
 omega
structure Small (h : Ha) : Prop where
 w1 : 1 ≤ h.wide
 w2 : h.wide ≤ 1000
 d1 : 1 ≤ h.deep
 d2 : h.deep ≤ 1000
 x1 : 1 ≤ h.bay.x
 x2 : h.bay.x ≤ 1000
 y1 : 1 ≤ h.bay.y
 y2 : h.bay.y ≤ 1000
theorem div_le {n b : Int} (hn : 0 ≤ n) (hb : 1 ≤ b) : 0 ≤ n / b ∧ n / b ≤ n :=
 ⟨Int.ediv_nonneg hn (by omega), Int.ediv_le_self b hn⟩
theorem mul_le {a b m n : Int} (ha : 0 ≤ a) (hb : 0 ≤ b) (h1 : a ≤ m) (h2 : b ≤ n) : 0 ≤ a * b ∧ a * b ≤ m * n :=
 ⟨Int.mul_nonneg ha hb, Int.mul_le_mul h1 h2 hb (by omega)⟩
theorem cols_le {h : Ha} (s : Small h) : 0 ≤ (h.wide + h.bay.x - 1) / h.bay.x ∧ (h.wide + h.bay.x - 1) / h.bay.x ≤ 2000 := by
 have := div_le (n := h.wide + h.bay.x - 1) (b := h.bay.x) (by have := s.w1; have := s.x1; omega) s.x1
 have := s.w2
 have := s.x2
 omega

def farOf (a b : Pl) : Int := max (a.x - b.x) (b.x - a.x) + max (a.y - b.y) (b.y - a.y)
def noKi : Ki := ⟨0, 0, false, [], 0, 0⟩
def kAt (h : Ha) (n : Int) : Ki := h.kinds.getD n.toNat noKi
def awAt (k : Ki) (n : Int) : Int := k.away.getD n.toNat 0
def clash (h : Ha) (o p : Pu) : Bool := decide (farOf o.pl p.pl < max (awAt (kAt h p.kind) o.kind) (awAt (kAt h o.kind) p.kind))
def isKind (h : Ha) (n : Int) : Bool := inR n 0 (h.kinds.length - 1)
def putErr (h : Ha) (before : List Pu) (p : Pu) : Int :=
 if !isPl h p.pl then 3 else if hasPl h.shut p.pl then 11 else if !isKind h p.kind then 8
 else if before.any (fun o => decide (o.pl = p.pl)) then 4
 else if (kAt h p.kind).water && !hasPl h.water p.pl then 7
 else if before.any (fun o => clash h o p) then 9 else 0
def putErrAt (h : Ha) (l : List Pu) (k : Nat) : Int := match l[k]? with
 | some p => putErr h (l.take k) p
 | none => 0
def manyOf (l : List Pu) (k : Nat) : Nat := (l.filter fun p => p.kind = (k : Int)).length
def overAt (h : Ha) (l : List Pu) (k : Nat) : Int := match h.kinds[k]? with
 | some q => if q.most < (manyOf l k : Int) then 13 else 0
 | none => 0
def layErr (h : Ha) (l : List Pu) : Int :=
 if 24 < l.length then 6
 else if firstErr (putErrAt h l) l.length ≠ 0 then firstErr (putErrAt h l) l.length
 else firstErr (overAt h l) h.kinds.length
def layoutErr (h : Ha) (l : List Pu) : Int := if hallErr h ≠ 0 then hallErr h else layErr h l
structure VK (h : Ha) (k : Ki) : Prop where
 lo0 : 0 ≤ k.lo
 loHi : k.lo ≤ k.hi
 hi1 : k.hi ≤ 1000000
 away : k.away.length = h.kinds.length
 awayIn : ∀ n ∈ k.away, 0 ≤ n ∧ n ≤ 9
 rent0 : 0 ≤ k.rent
 rent1 : k.rent ≤ 1000000
 most0 : 0 ≤ k.most
 most1 : k.most ≤ 24
structure VH (h : Ha) : Prop where
 w1 : 1 ≤ h.wide
 w2 : h.wide ≤ 6
 d1 : 1 ≤ h.deep
 d2 : h.deep ≤ 4
 x1 : 1 ≤ h.bay.x
 x2 : h.bay.x ≤ h.wide
 y1 : 1 ≤ h.bay.y
 y2 : h.bay.y ≤ h.deep
 water : cellsErr h h.water = 0
 shut : cellsErr h h.shut = 0
 bears : (h.bears.length : Int) = baysOf h
 bearsIn : ∀ n ∈ h.bears, 0 ≤ n ∧ n ≤ 10000000
 kinds0 : 0 < h.kinds.length
 kinds6 : h.kinds.length ≤ 6
 kind : ∀ k ∈ h.kinds, VK h k
theorem inR_true {n a b : Int} : inR n a b = true ↔ a ≤ n ∧ n ≤ b := by simp [inR]
theorem VK.of {h : Ha} {k : Ki} (e : kindErr h k = 0) : VK h k := by
 unfold kindErr at e
 repeat' (split at e <;> try (exact absurd e (by decide)))
 rename_i h1 h2 h3 h4 h5
 simp only [Bool.or_eq_true, Bool.not_eq_true', not_or, Bool.not_eq_false, inR_true] at h1 h5
 simp only [List.any_eq_true, Bool.not_eq_true', not_exists, not_and, Bool.not_eq_false, inR_true] at h4
 exact ⟨by omega, by omega, by omega, by simpa using h3, h4, by omega, by omega, by omega, by omega⟩
theorem VH.of {h : Ha} (e : hallErr h = 0) : VH h := by
 unfold hallErr at e
 by_cases h1 : (!inR h.wide 1 6 || !inR h.deep 1 4) = true
 ·rw [if_pos h1] at e; exact absurd e (by decide)
 rw [if_neg h1] at e
 by_cases h2 : cellsErr h h.water ≠ 0
 ·rw [if_pos h2] at e; exact absurd e h2
 rw [if_neg h2] at e
 by_cases h3 : cellsErr h h.shut ≠ 0
 ·rw [if_pos h3] at e; exact absurd e h3
 rw [if_neg h3] at e
 by_cases h4 : (!inR h.bay.x 1 h.wide || !inR h.bay.y 1 h.deep) = true
 ·rw [if_pos h4] at e; exact absurd e (by decide)
 rw [if_neg h4] at e
 by_cases h5 : (h.bears.length : Int) ≠ baysOf h
 ·rw [if_pos h5] at e; exact absurd e (by decide)
 rw [if_neg h5] at e
 by_cases h6 : h.bears.any (fun n => !inR n 0 10000000) = true
 ·rw [if_pos h6] at e; exact absurd e (by decide)
 rw [if_neg h6] at e
 by_cases h7 : h.kinds.length = 0
 ·rw [if_pos h7] at e; exact absurd e (by decide)
 rw [if_neg h7] at e
 by_cases h8 : 6 < h.kinds.length
 ·rw [if_pos h8] at e; exact absurd e (by decide)
 rw [if_neg h8, firstErr_zero] at e
 simp only [Bool.or_eq_true, Bool.not_eq_true', not_or, Bool.not_eq_false, inR_true] at h1 h4
 simp only [List.any_eq_true, Bool.not_eq_true', not_exists, not_and, Bool.not_eq_false, inR_true] at h6
 refine ⟨h1.1.1, h1.1.2, h1.2.1, h1.2.2, h4.1.1, h4.1.2, h4.2.1, h4.2.2, by simpa using h2, by simpa using h3, by simpa using h5, h6, by omega, by omega, fun k hk => ?_⟩
 obtain ⟨i, hi, rfl⟩ := List.getElem_of_mem hk
 refine VK.of ?_
 have := e i hi
 simpa [kindErrAt, hi] using this
theorem VH.small {h : Ha} (v : VH h) : Small h := by
 obtain ⟨a, b, c, d, e, f, g, i⟩ := v
 exact ⟨by omega, by omega, by omega, by omega, by omega, by omega, by omega, by omega⟩
def GoodP (h : Ha) (o : Pu) : Prop := isPl h o.pl = true ∧ isKind h o.kind = true
theorem GoodP.of {h : Ha} {b : List Pu} {p : Pu} (e : putErr h b p = 0) : GoodP h p := by
 unfold putErr at e
 constructor
 ·by_cases h1 : isPl h p.pl = true
  ·exact h1
  ·rw [if_pos (by simpa using h1)] at e; exact absurd e (by decide)
 ·by_cases h1 : isKind h p.kind = true
  ·exact h1
  ·split at e
   ·exact absurd e (by decide)
   split at e
   ·exact absurd e (by decide)
   rw [if_pos (by simpa using h1)] at e; exact absurd e (by decide)
theorem GoodP.bounds {h : Ha} {o : Pu} (v : VH h) (g : GoodP h o) : 0 ≤ o.pl.x ∧ o.pl.x ≤ 5 ∧ 0 ≤ o.pl.y ∧ o.pl.y ≤ 3 ∧ 0 ≤ o.kind ∧ o.kind < h.kinds.length := by
 obtain ⟨g1, g2⟩ := g
 simp only [isPl, Bool.and_eq_true, inR_true, isKind] at g1 g2
 have := v.w2
 have := v.d2
 omega
end Go.Proofs.YtnjgdlmddlinaaaDoor
