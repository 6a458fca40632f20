/- A part of the proofs about the chapter of the doors; it states no condition of its own. -/
import Derived.Test.YtmagiabapakhcaaB14
import Derived.Test.YtmagiabapakhcaaB26
set_option linter.unusedVariables false
set_option linter.unusedSimpArgs false
/- Houses made of numbers: their parts, on values. (Vm) -/
namespace Go.Proofs.Ytmagiabapakhcaa.Vm
open Go Go.Proofs
theorem i_rem (t : Nat) (a b : Int) (ha : 0 ≤ a) (hb : 0 < b) : vbin T .rem t (vi a) (vi b) = some (vi (a % b)) := by
 have hb0 : b ≠ 0 := by omega
 have h2 : Go.binOp .rem 0 (.int .i64 a) (.int .i64 b) = .pure (.int .i64 (a.tmod b)) := by
  show Op.intDiv .rem .i64 a b = _
  unfold Op.intDiv
  rw [if_neg hb0]
  rfl
 simp only [vbin, h2, pureOf, Option.map_some, ofValue]
 rw [Int.tmod_eq_emod_of_nonneg ha]
attribute [local irreducible] castF castU fromF fromU oneF oneU
def aboutF (u n : Int) : Sp := ⟨max 0 (n - oneF (castU u 4) [0, castF u 4]), n + oneF (castU (oneU (castU u 4) [0, castF u 4]) 4) [0, castF (oneU (castU u 4) [0, castF u 4]) 4]⟩
def aboutU (u : Int) : Int := oneU (castU (oneU (castU u 4) [0, castF u 4]) 4) [0, castF (oneU (castU u 4) [0, castF u 4]) 4]
end Go.Proofs.Ytmagiabapakhcaa.Vm

/- Houses made of numbers, plain: what holds while they are made. -/
namespace Go.Proofs.Ytmagiabapakhcaa
def In (x : Sp) (n : Int) : Prop := x.lo ≤ n ∧ n ≤ x.hi
theorem keysOk_snoc : ∀ (cs bs : List Co) (c : Co), keysOk bs cs → (bs ++ cs).any (sameKey c) = false → keysOk bs (cs ++ [c])
 | [], bs, c, _, h => by simpa [keysOk] using h
 | x :: cs, bs, c, hk, h => by
  refine ⟨hk.1, keysOk_snoc cs (bs ++ [x]) c hk.2 ?_⟩
  simpa using h
def cntOk (hs : List Int) (ds : List Do) (T : Nat) (c : Co) : Prop := CoV ⟨hs, ds, ⟨0, 0⟩, T, []⟩ c
structure Grow (hs : List Int) (ds : List Do) (T : Nat) (cs : List Co) (ts : List Int) (t i : Nat) (now : Int) : Prop where
 len : ts.length = t + 1
 now0 : 0 ≤ now
 now1 : now ≤ 8000
 keys : keysOk [] cs
 cv : ∀ c ∈ cs, cntOk hs ds T c
 old : ∀ c ∈ cs, c.tick < t ∨ (c.tick = t ∧ c.door < i)
 c24 : cs.length ≤ 24
 tr : ∀ t' : Nat, t' < t → In (chg cs (t' : Int)) (ts.getD (t' + 1) 0 - ts.getD t' 0)
 cur : In (chg cs (t : Int)) (now - ts.getD t 0)
 pos : ∀ x ∈ ts, 0 ≤ x ∧ x ≤ 8000
section
variable {hs : List Int} {ds : List Do} {T : Nat} {cs : List Co} {ts : List Int} {t i : Nat} {now : Int}
theorem chg_new {t : Int} (h : ∀ c ∈ cs, c.tick < t) : chg cs t = ⟨0, 0⟩ := by
 unfold chg
 have : cs.filter (fun c => decide (c.tick = t)) = [] := by
  rw [List.filter_eq_nil_iff]
  intro c hc
  have := h c hc
  simp only [decide_eq_true_eq]
  omega
 rw [this]
 rfl
theorem Grow.start (h0 : 0 ≤ now) (h1 : now ≤ 8000) : Grow hs ds T [] [now] 0 0 now :=
 ⟨rfl, h0, h1, trivial, by simp, by simp, by simp, fun t' ht => absurd ht (Nat.not_lt_zero _), by simp [In, chg], by simpa using ⟨h0, h1⟩⟩
theorem Grow.skip (g : Grow hs ds T cs ts t i now) : Grow hs ds T cs ts t (i + 1) now :=
 ⟨g.len, g.now0, g.now1, g.keys, g.cv, fun c hc => by rcases g.old c hc with q | q; exact .inl q; exact .inr ⟨q.1, by omega⟩, g.c24, g.tr, g.cur, g.pos⟩
theorem Grow.add (g : Grow hs ds T cs ts t i now) {c : Co} {a b : Int} (ht : c.tick = t) (hi : c.door = i) (hc : cntOk hs ds T c) (hl : cs.length < 24) (ha : In c.i a) (hb : In c.o b) (h0 : 0 ≤ now + a - b) (h1 : now + a - b ≤ 8000) : Grow hs ds T (cs ++ [c]) ts t (i + 1) (now + a - b) := by
 refine ⟨g.len, h0, h1, keysOk_snoc cs [] c g.keys ?_, fun x hx => ?_, fun x hx => ?_, by simp; omega, fun t' ht' => ?_, ?_, g.pos⟩
 ·rw [List.nil_append, List.any_eq_false]
  intro x hx
  have := g.old x hx
  simp only [sameKey, Bool.and_eq_true, decide_eq_true_eq]
  omega
 ·rcases List.mem_append.1 hx with hx | hx
  ·exact g.cv x hx
  ·rw [List.mem_singleton] at hx; rw [hx]; exact hc
 ·rcases List.mem_append.1 hx with hx | hx
  ·rcases g.old x hx with q | q
   ·exact .inl q
   ·exact .inr ⟨q.1, by omega⟩
  ·rw [List.mem_singleton] at hx; rw [hx]; exact .inr ⟨ht, by omega⟩
 ·rw [chg_snoc, if_neg (by omega)]
  exact g.tr t' ht'
 ·rw [chg_snoc, if_pos ht]
  have := g.cur
  unfold In at *
  simp only [addS, valS]
  omega
theorem Grow.tick (g : Grow hs ds T cs ts t i now) (hi : ∀ c ∈ cs, c.tick < (t : Int) + 1) : Grow hs ds T cs (ts ++ [now]) (t + 1) 0 now := by
 have gl := g.len
 refine ⟨by simp [gl], g.now0, g.now1, g.keys, g.cv, fun c hc => .inl (by have := hi c hc; omega), g.c24, fun t' ht' => ?_, ?_, fun x hx => ?_⟩
 ·by_cases e : t' = t
  ·subst e
   have h1 : (ts ++ [now]).getD (t' + 1) 0 = now := by rw [List.getD_eq_getElem?_getD, List.getElem?_append_right (by omega), show t' + 1 - ts.length = 0 by omega]; rfl
   have h2 : (ts ++ [now]).getD t' 0 = ts.getD t' 0 := by rw [List.getD_eq_getElem?_getD, List.getElem?_append_left (by omega), ← List.getD_eq_getElem?_getD]
   rw [h1, h2]
   exact g.cur
  ·have h1 : (ts ++ [now]).getD (t' + 1) 0 = ts.getD (t' + 1) 0 := by rw [List.getD_eq_getElem?_getD, List.getElem?_append_left (by omega), ← List.getD_eq_getElem?_getD]
   have h2 : (ts ++ [now]).getD t' 0 = ts.getD t' 0 := by rw [List.getD_eq_getElem?_getD, List.getElem?_append_left (by omega), ← List.getD_eq_getElem?_getD]
   rw [h1, h2]
   exact g.tr t' (by omega)
 ·have h1 : (ts ++ [now]).getD (t + 1) 0 = now := by rw [List.getD_eq_getElem?_getD, List.getElem?_append_right (by omega), show t + 1 - ts.length = 0 by omega]; rfl
  rw [h1, chg_new (fun c hc => by have := hi c hc; push_cast; omega)]
  simp [In]
 ·rcases List.mem_append.1 hx with hx | hx
  ·exact g.pos x hx
  ·rw [List.mem_singleton] at hx; rw [hx]; exact ⟨g.now0, g.now1⟩
theorem Grow.ticks (g : Grow hs ds T cs ts t i now) : ∀ c ∈ cs, c.tick < (t : Int) + 1 := fun c hc => by
 rcases g.old c hc with q | q <;> omega
end
end Go.Proofs.Ytmagiabapakhcaa
