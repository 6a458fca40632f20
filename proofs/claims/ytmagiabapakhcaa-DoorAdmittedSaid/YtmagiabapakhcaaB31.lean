/- A part of the proofs about the chapter of the doors; it states no condition of its own. -/
import Derived.Test.YtmagiabapakhcaaB14
import Derived.Test.YtmagiabapakhcaaB26
set_option linter.unusedVariables false
set_option linter.unusedSimpArgs false
open Int renaming reduceLE → zA, reduceLT → zB, reduceToNat → zC, reduceNeg → zD
open Nat renaming reduceLT → zE, reduceEqDiff → zF, reduceAdd → zG, reduceSub → zH, reduceMul → zI, reduceLeDiff → zJ
/- Houses made of numbers: their parts, on values. (Vm) -/
namespace Go.Proofs.Ytmagiabapakhcaa.Vm
open Go Go.Proofs
theorem i_rem (t : Nat) (a b : Int) (ha : 0 ≤ a) (hb : 0 < b) : vbin T .rem t (vi a) (vi b) = some (vi (a % b)) := by
 have hb0 : b ≠ 0 := by omega
 have h2 : Go.binOp .rem 0 (.int .i64 a) (.int .i64 b) = .pure (.int .i64 (a.tmod b)) := by
  show Op.intDiv .rem .i64 a b = _
  unfold Op.intDiv
  rw [if_neg hb0]
  rfl
 simp only [vbin, h2, pureOf, Option.map_some, ofValue]
 rw [Int.tmod_eq_emod_of_nonneg ha]
theorem bring_v (x n : Int) (M : Mem) (hx : 0 ≤ x) (hn : 2 ≤ n) : VC Try.prog 62 [vi x, vi n] M (fun r M' => M' = M ∧ r = vi (x % n)) := by
 have k1 : (n < 2) = False := eq_false (by omega)
 have k2 : 0 < n := by omega
 have k3 : (x % n < 0) = False := eq_false (by have := Int.emod_nonneg x (show n ≠ 0 by omega); omega)
 refine VC_own' T_ok (f := 62) (fn := Try.f62) (by kernel_rfl) rfl Try.ntmps62 (by rfl) (by rfl) ?_
 ((repeat refine Ws ?_);refine Wr ?_)
 simp (maxSteps := 1000000) only [VL,VM,↓VG,reduceIte,reduceCtorEq,zA,zB,zC,zD,zE,zF,zG,zH,zI,zJ]
 ((repeat refine Ws ?_);refine Wr ?_)
 simp (maxSteps := 1000000) only [VL,VM,↓VG,reduceIte,reduceCtorEq,zA,zB,zC,zD,zE,zF,zG,zH,zI,zJ, k1]
 ((repeat refine Ws ?_);refine Wf (by first|rfl|simp only [EV,zF,reduceIte]) ?_)
 ((repeat refine Ws ?_);refine W_skip ?_)
 simp (maxSteps := 1000000) only [VL,VM,↓VG,reduceIte,reduceCtorEq,zA,zB,zC,zD,zE,zF,zG,zH,zI,zJ]
 ((repeat refine Ws ?_);refine Wr ?_)
 simp (maxSteps := 1000000) only [VL,VM,↓VG,reduceIte,reduceCtorEq,zA,zB,zC,zD,zE,zF,zG,zH,zI,zJ, i_rem, hx, k2]
 ((repeat refine Ws ?_);refine Wr ?_)
 simp (maxSteps := 1000000) only [VL,VM,↓VG,reduceIte,reduceCtorEq,zA,zB,zC,zD,zE,zF,zG,zH,zI,zJ, k3]
 ((repeat refine Ws ?_);refine Wf (by first|rfl|simp only [EV,zF,reduceIte]) ?_)
 ((repeat refine Ws ?_);refine W_skip ?_)
 simp (maxSteps := 1000000) only [VL,VM,↓VG,reduceIte,reduceCtorEq,zA,zB,zC,zD,zE,zF,zG,zH,zI,zJ]
 ((repeat refine Ws ?_);refine Wr ?_)
 simp (maxSteps := 1000000) only [VL,VM,↓VG,reduceIte,reduceCtorEq,zA,zB,zC,zD,zE,zF,zG,zH,zI,zJ]
 (repeat refine Ws ?_)
 refine W_ret ?_
 try simp only [thenQ, blockQ]
 refine own_ret10 rfl ?_ (by rfl)
 simp only [get_cons, frz, vtup, Nat.reduceEqDiff, if_true, if_false, reduceIte]
attribute [local irreducible] castF castU fromF fromU oneF oneU
def aboutF (u n : Int) : Sp := ⟨max 0 (n - oneF (castU u 4) [0, castF u 4]), n + oneF (castU (oneU (castU u 4) [0, castF u 4]) 4) [0, castF (oneU (castU u 4) [0, castF u 4]) 4]⟩
def aboutU (u : Int) : Int := oneU (castU (oneU (castU u 4) [0, castF u 4]) 4) [0, castF (oneU (castU u 4) [0, castF u 4]) 4]
theorem aboutF_range {u n : Int} (hn : 0 ≤ n) : 0 ≤ (aboutF u n).lo ∧ (aboutF u n).lo ≤ n ∧ n ≤ (aboutF u n).hi ∧ (aboutF u n).hi ≤ n + 3 := by
 have c1 := castF_range (u := u) (n := 4) (by omega)
 have o1 := oneF_mem (u := castU u 4) (xs := [0, castF u 4]) (by simp) (by simp)
 have c2 := castF_range (u := oneU (castU u 4) [0, castF u 4]) (n := 4) (by omega)
 have o2 := oneF_mem (u := castU (oneU (castU u 4) [0, castF u 4]) 4) (xs := [0, castF (oneU (castU u 4) [0, castF u 4]) 4]) (by simp) (by simp)
 unfold aboutF
 generalize castF (oneU (castU u 4) [0, castF u 4]) 4 = y at *
 generalize castU (oneU (castU u 4) [0, castF u 4]) 4 = v at *
 generalize oneF v [0, y] = b at *
 generalize castF u 4 = x at *
 generalize oneF (castU u 4) [0, x] = a at *
 simp only [List.mem_cons, List.not_mem_nil, or_false] at o1 o2
 rcases o1 with rfl | rfl <;> rcases o2 with rfl | rfl <;> simp only <;> omega
theorem about_v {H0 : List VObj} {d : Nat} (hd : d < H0.length) (u n : Int) (lg : List (Nat × Nat)) (h0 : 0 ≤ n) (h1 : n ≤ 1000000) : VC Try.prog 63 [.ptr d 0, vi n] ⟨DH H0 d u [], lg⟩ (fun r M' => M' = ⟨DH H0 d (aboutU u) [], lg⟩ ∧ r = spV (aboutF u n)) := by
 have hr := aboutF_range (u := u) h0
 refine VC_own' T_ok (f := 63) (fn := Try.f63) (by kernel_rfl) rfl Try.ntmps63 (by rfl) (by rfl) ?_
 ((repeat refine Ws ?_);refine Wr ?_)
 simp (maxSteps := 1000000) only [VL,VM,↓VG,reduceIte,reduceCtorEq,zA,zB,zC,zD,zE,zF,zG,zH,zI,zJ, DH_app hd, DH_len, DH_len0, DH_get hd, DH_get0 hd, DH_set hd, DH_set0 hd, DH_setd, DH_die hd]
 ((repeat refine Ws ?_);refine Wr ?_)
 simp (maxSteps := 1000000) only [VL,VM,↓VG,reduceIte,reduceCtorEq,zA,zB,zC,zD,zE,zF,zG,zH,zI,zJ, DH_app hd, DH_len, DH_len0, DH_get hd, DH_get0 hd, DH_set hd, DH_set0 hd, DH_setd, DH_die hd]
 apply call_eq (f := 45) (fn := Try.f45) (by kernel_rfl) (by rfl)
 ·exact cast_c hd u 4 lg (by omega)
 simp (maxSteps := 1000000) only [VL,VM,↓VG,reduceIte,reduceCtorEq,zA,zB,zC,zD,zE,zF,zG,zH,zI,zJ, DH_app hd, DH_len, DH_len0, DH_get hd, DH_get0 hd, DH_set hd, DH_set0 hd, DH_setd, DH_die hd]
 apply call_eq (f := 28) (fn := Try.f28) (by kernel_rfl) (by rfl)
 ·exact one_c hd (castU u 4) [0, castF u 4] lg (by simp) (by simp)
 have e1 : (aboutF u n).lo = max 0 (n - oneF (castU u 4) [0, castF u 4]) := rfl
 have c1 := castF_range (u := u) (n := 4) (by omega)
 have o1 := oneF_mem (u := castU u 4) (xs := [0, castF u 4]) (by simp) (by simp)
 have q1 : -9223372036854775808 ≤ n - oneF (castU u 4) [0, castF u 4] ∧ n - oneF (castU u 4) [0, castF u 4] < 9223372036854775808 := by
  simp only [List.mem_cons, List.not_mem_nil, or_false] at o1
  rcases o1 with e | e <;> rw [e] <;> omega
 simp (maxSteps := 1000000) only [VL,VM,↓VG,reduceIte,reduceCtorEq,zA,zB,zC,zD,zE,zF,zG,zH,zI,zJ, DH_app hd, DH_len, DH_len0, DH_get hd, DH_get0 hd, DH_set hd, DH_set0 hd, DH_setd, DH_die hd, q1]
 apply call_eq (f := 45) (fn := Try.f45) (by kernel_rfl) (by rfl)
 ·exact cast_c hd (oneU (castU u 4) [0, castF u 4]) 4 lg (by omega)
 simp (maxSteps := 1000000) only [VL,VM,↓VG,reduceIte,reduceCtorEq,zA,zB,zC,zD,zE,zF,zG,zH,zI,zJ, DH_app hd, DH_len, DH_len0, DH_get hd, DH_get0 hd, DH_set hd, DH_set0 hd, DH_setd, DH_die hd, q1]
 apply call_eq (f := 28) (fn := Try.f28) (by kernel_rfl) (by rfl)
 ·exact one_c hd (castU (oneU (castU u 4) [0, castF u 4]) 4) [0, castF (oneU (castU u 4) [0, castF u 4]) 4] lg (by simp) (by simp)
 have e2 : (aboutF u n).hi = n + oneF (castU (oneU (castU u 4) [0, castF u 4]) 4) [0, castF (oneU (castU u 4) [0, castF u 4]) 4] := rfl
 have q2 : -9223372036854775808 ≤ n + oneF (castU (oneU (castU u 4) [0, castF u 4]) 4) [0, castF (oneU (castU u 4) [0, castF u 4]) 4] ∧ n + oneF (castU (oneU (castU u 4) [0, castF u 4]) 4) [0, castF (oneU (castU u 4) [0, castF u 4]) 4] < 9223372036854775808 := by rw [← e2]; omega
 simp (maxSteps := 1000000) only [VL,VM,↓VG,reduceIte,reduceCtorEq,zA,zB,zC,zD,zE,zF,zG,zH,zI,zJ, DH_app hd, DH_len, DH_len0, DH_get hd, DH_get0 hd, DH_set hd, DH_set0 hd, DH_setd, DH_die hd, q1, q2]
 (repeat refine Ws ?_)
 refine W_ret ?_
 try simp only [thenQ, blockQ]
 refine own_retDc hd (.inr rfl) rfl (Y := spV (aboutF u n)) ?_ rfl rfl
 simp [vload, t_span, get_cons, DH_get0 hd, strip1]
 rfl
end Go.Proofs.Ytmagiabapakhcaa.Vm

/- Houses made of numbers, plain: what holds while they are made. -/
namespace Go.Proofs.Ytmagiabapakhcaa
def In (x : Sp) (n : Int) : Prop := x.lo ≤ n ∧ n ≤ x.hi
theorem keysOk_snoc : ∀ (cs bs : List Co) (c : Co), keysOk bs cs → (bs ++ cs).any (sameKey c) = false → keysOk bs (cs ++ [c])
 | [], bs, c, _, h => by simpa [keysOk] using h
 | x :: cs, bs, c, hk, h => by
  refine ⟨hk.1, keysOk_snoc cs (bs ++ [x]) c hk.2 ?_⟩
  simpa using h
def cntOk (hs : List Int) (ds : List Do) (T : Nat) (c : Co) : Prop := CoV ⟨hs, ds, ⟨0, 0⟩, T, []⟩ c
structure Grow (hs : List Int) (ds : List Do) (T : Nat) (cs : List Co) (ts : List Int) (t i : Nat) (now : Int) : Prop where
 len : ts.length = t + 1
 now0 : 0 ≤ now
 now1 : now ≤ 8000
 keys : keysOk [] cs
 cv : ∀ c ∈ cs, cntOk hs ds T c
 old : ∀ c ∈ cs, c.tick < t ∨ (c.tick = t ∧ c.door < i)
 c24 : cs.length ≤ 24
 tr : ∀ t' : Nat, t' < t → In (chg cs (t' : Int)) (ts.getD (t' + 1) 0 - ts.getD t' 0)
 cur : In (chg cs (t : Int)) (now - ts.getD t 0)
 pos : ∀ x ∈ ts, 0 ≤ x ∧ x ≤ 8000
section
variable {hs : List Int} {ds : List Do} {T : Nat} {cs : List Co} {ts : List Int} {t i : Nat} {now : Int}
theorem chg_new {t : Int} (h : ∀ c ∈ cs, c.tick < t) : chg cs t = ⟨0, 0⟩ := by
 unfold chg
 have : cs.filter (fun c => decide (c.tick = t)) = [] := by
  rw [List.filter_eq_nil_iff]
  intro c hc
  have := h c hc
  simp only [decide_eq_true_eq]
  omega
 rw [this]
 rfl
theorem Grow.start (h0 : 0 ≤ now) (h1 : now ≤ 8000) : Grow hs ds T [] [now] 0 0 now :=
 ⟨rfl, h0, h1, trivial, by simp, by simp, by simp, fun t' ht => absurd ht (Nat.not_lt_zero _), by simp [In, chg], by simpa using ⟨h0, h1⟩⟩
theorem Grow.skip (g : Grow hs ds T cs ts t i now) : Grow hs ds T cs ts t (i + 1) now :=
 ⟨g.len, g.now0, g.now1, g.keys, g.cv, fun c hc => by rcases g.old c hc with q | q; exact .inl q; exact .inr ⟨q.1, by omega⟩, g.c24, g.tr, g.cur, g.pos⟩
theorem Grow.add (g : Grow hs ds T cs ts t i now) {c : Co} {a b : Int} (ht : c.tick = t) (hi : c.door = i) (hc : cntOk hs ds T c) (hl : cs.length < 24) (ha : In c.i a) (hb : In c.o b) (h0 : 0 ≤ now + a - b) (h1 : now + a - b ≤ 8000) : Grow hs ds T (cs ++ [c]) ts t (i + 1) (now + a - b) := by
 refine ⟨g.len, h0, h1, keysOk_snoc cs [] c g.keys ?_, fun x hx => ?_, fun x hx => ?_, by simp; omega, fun t' ht' => ?_, ?_, g.pos⟩
 ·rw [List.nil_append, List.any_eq_false]
  intro x hx
  have := g.old x hx
  simp only [sameKey, Bool.and_eq_true, decide_eq_true_eq]
  omega
 ·rcases List.mem_append.1 hx with hx | hx
  ·exact g.cv x hx
  ·rw [List.mem_singleton] at hx; rw [hx]; exact hc
 ·rcases List.mem_append.1 hx with hx | hx
  ·rcases g.old x hx with q | q
   ·exact .inl q
   ·exact .inr ⟨q.1, by omega⟩
  ·rw [List.mem_singleton] at hx; rw [hx]; exact .inr ⟨ht, by omega⟩
 ·rw [chg_snoc, if_neg (by omega)]
  exact g.tr t' ht'
 ·rw [chg_snoc, if_pos ht]
  have := g.cur
  unfold In at *
  simp only [addS, valS]
  omega
theorem Grow.tick (g : Grow hs ds T cs ts t i now) (hi : ∀ c ∈ cs, c.tick < (t : Int) + 1) : Grow hs ds T cs (ts ++ [now]) (t + 1) 0 now := by
 have gl := g.len
 refine ⟨by simp [gl], g.now0, g.now1, g.keys, g.cv, fun c hc => .inl (by have := hi c hc; omega), g.c24, fun t' ht' => ?_, ?_, fun x hx => ?_⟩
 ·by_cases e : t' = t
  ·subst e
   have h1 : (ts ++ [now]).getD (t' + 1) 0 = now := by rw [List.getD_eq_getElem?_getD, List.getElem?_append_right (by omega), show t' + 1 - ts.length = 0 by omega]; rfl
   have h2 : (ts ++ [now]).getD t' 0 = ts.getD t' 0 := by rw [List.getD_eq_getElem?_getD, List.getElem?_append_left (by omega), ← List.getD_eq_getElem?_getD]
   rw [h1, h2]
   exact g.cur
  ·have h1 : (ts ++ [now]).getD (t' + 1) 0 = ts.getD (t' + 1) 0 := by rw [List.getD_eq_getElem?_getD, List.getElem?_append_left (by omega), ← List.getD_eq_getElem?_getD]
   have h2 : (ts ++ [now]).getD t' 0 = ts.getD t' 0 := by rw [List.getD_eq_getElem?_getD, List.getElem?_append_left (by omega), ← List.getD_eq_getElem?_getD]
   rw [h1, h2]
   exact g.tr t' (by omega)
 ·have h1 : (ts ++ [now]).getD (t + 1) 0 = now := by rw [List.getD_eq_getElem?_getD, List.getElem?_append_right (by omega), show t + 1 - ts.length = 0 by omega]; rfl
  rw [h1, chg_new (fun c hc => by have := hi c hc; push_cast; omega)]
  simp [In]
 ·rcases List.mem_append.1 hx with hx | hx
  ·exact g.pos x hx
  ·rw [List.mem_singleton] at hx; rw [hx]; exact ⟨g.now0, g.now1⟩
theorem Grow.ticks (g : Grow hs ds T cs ts t i now) : ∀ c ∈ cs, c.tick < (t : Int) + 1 := fun c hc => by
 rcases g.old c hc with q | q <;> omega
end
structure MadeH (halls doors ticks people : Int) (h : Ho) (ts : List Int) : Prop where
 V : HV h
 n : (h.holds.length : Int) ≤ halls
 holds : ∀ x ∈ h.holds, x ≤ people
 d : (h.doors.length : Int) ≤ doors
 flows : ∀ x ∈ h.doors, x.flow ≤ people
 t : h.ticks ≤ ticks
 len : (ts.length : Int) = h.ticks + 1
 first : In h.first (ts.getD 0 0)
 tr : ∀ t' : Nat, (t' : Int) < h.ticks → In (chg h.counts (t' : Int)) (ts.getD (t' + 1) 0 - ts.getD t' 0)
 pos : ∀ x ∈ ts, 0 ≤ x ∧ x ≤ 8000
theorem MadeH.of {hs : List Int} {ds : List Do} {T : Nat} {cs : List Co} {ts : List Int} {now : Int} {first : Sp} {halls doors ticks people : Int} (g : Grow hs ds T cs ts T 0 now) (n0 : 1 ≤ hs.length) (n1 : hs.length ≤ 4) (hh : ∀ x ∈ hs, 0 ≤ x ∧ x ≤ people) (hp : people ≤ 10000) (d1 : ds.length ≤ 5) (hd : ∀ x ∈ ds, DoV hs.length x ∧ x.flow ≤ people) (hf : SpOk first) (hT : T ≤ 12) (hfi : In first (ts.getD 0 0)) (c1 : (hs.length : Int) ≤ halls) (c2 : (ds.length : Int) ≤ doors) (c3 : (T : Int) ≤ ticks) :
  MadeH halls doors ticks people ⟨hs, ds, first, T, cs⟩ ts := by
 refine ⟨⟨n0, n1, fun x hx => ?_, d1, fun x hx => (hd x hx).1, hf, by simp only; omega, by simp only; omega, g.c24, fun c hc => ?_, g.keys⟩, c1, fun x hx => (hh x hx).2, c2, fun x hx => (hd x hx).2, c3, by rw [g.len]; simp, hfi, fun t' ht' => ?_, g.pos⟩
 ·have := hh x hx; omega
 ·obtain ⟨a, b, c', d', e, f, i⟩ := g.cv c hc
  exact ⟨a, b, c', d', e, f, i⟩
 ·simp only at ht'
  exact g.tr t' (by omega)
end Go.Proofs.Ytmagiabapakhcaa
