/- A part of the proofs about the chapter of the ramps; it states no condition of its own. -/
import Derived.Test.YthcicaelnchfdaaB14
import Derived.Test.YthcicaelnchfdaaB15
import Derived.Test.YthcicaelnchfdaaB16
set_option linter.unusedVariables false
set_option linter.unusedSimpArgs false
open Int renaming reduceLE → zA, reduceLT → zB, reduceToNat → zC, reduceNeg → zD
open Nat renaming reduceLT → zE, reduceEqDiff → zF, reduceAdd → zG, reduceSub → zH, reduceMul → zI, reduceLeDiff → zJ
/- Dice that show spans, on values. (Vm) -/
namespace Go.Proofs.Ythcicaelnchfdaa.Vm
open Go Go.Proofs
def spA (u lo hi : Int) : Int := fromF u lo hi
def spL (u lo hi : Int) : List Int := [spA u lo hi, min hi (spA u lo hi + 4), hi]
def spU2 (u lo hi : Int) : Int := oneU (fromU u lo hi) (spL u lo hi)
def spB (u lo hi : Int) : Int := oneF (fromU u lo hi) (spL u lo hi)
def spC (u lo hi : Int) : Int := fromF (spU2 u lo hi) (spA u lo hi) (spB u lo hi)
def spU (u lo hi : Int) : Int := fromU (spU2 u lo hi) (spA u lo hi) (spB u lo hi)
theorem sp_range {u lo hi : Int} (h : lo ≤ hi) (h0 : 0 ≤ lo) (h2 : hi ≤ 100000000) : lo ≤ spA u lo hi ∧ spA u lo hi ≤ spB u lo hi ∧ spB u lo hi ≤ hi ∧ spA u lo hi ≤ spC u lo hi ∧ spC u lo hi ≤ hi := by
 have h1 := fromF_range (u := u) (lo := lo) (hi := hi) (by omega)
 have hm : spB u lo hi ∈ spL u lo hi := oneF_mem (by simp [spL]) (by simp [spL])
 have hA : lo ≤ spA u lo hi ∧ spA u lo hi ≤ hi := by unfold spA; omega
 have hB : spA u lo hi ≤ spB u lo hi ∧ spB u lo hi ≤ hi := by
  simp only [spL, List.mem_cons, List.not_mem_nil, or_false] at hm
  omega
 have h3 := fromF_range (u := spU2 u lo hi) (lo := spA u lo hi) (hi := spB u lo hi) (by omega)
 have hC : spA u lo hi ≤ spC u lo hi ∧ spC u lo hi ≤ spB u lo hi := by unfold spC; omega
 omega
theorem dspan_v {H0 : List VObj} {d : Nat} (hd : d < H0.length) (u lo hi : Int) (lg : List (Nat × Nat)) (h0 : 0 ≤ lo) (h1 : lo ≤ hi) (h2 : hi ≤ 100000000) : VC Try.prog 60 [.ptr d 0, vi lo, vi hi] ⟨DH H0 d u [], lg⟩ (fun r M' => M' = ⟨DH H0 d (spU u lo hi) [], lg⟩ ∧ r = spV ⟨spA u lo hi, spC u lo hi⟩) := by
 obtain ⟨b1, b2, b3, b4, b5⟩ := sp_range (u := u) h1 h0 h2
 have k1 : -9223372036854775808 ≤ spA u lo hi + 4 ∧ spA u lo hi + 4 < 9223372036854775808 := by omega
 refine VC_own' T_ok (f := 60) (fn := Try.f60) (by kernel_rfl) rfl Try.ntmps60 (by rfl) (by rfl) ?_
 ((repeat refine Ws ?_);refine Wr ?_)
 simp (maxSteps := 1000000) only [VL,VM,↓VG,reduceIte,reduceCtorEq,zA,zB,zC,zD,zE,zF,zG,zH,zI,zJ, DH_app hd, DH_len, DH_len0, DH_get hd, DH_get0 hd, DH_set hd, DH_set0 hd, DH_setd, DH_die hd]
 ((repeat refine Ws ?_);refine Wr ?_)
 simp (maxSteps := 1000000) only [VL,VM,↓VG,reduceIte,reduceCtorEq,zA,zB,zC,zD,zE,zF,zG,zH,zI,zJ, DH_app hd, DH_len, DH_len0, DH_get hd, DH_get0 hd, DH_set hd, DH_set0 hd, DH_setd, DH_die hd]
 apply call_eq (f := 32) (fn := Try.f32) (by kernel_rfl) (by rfl)
 ·exact from_c hd u lo hi lg (by omega) (by omega) (by omega) (by omega)
 simp (maxSteps := 1000000) only [VL,VM,↓VG,reduceIte,reduceCtorEq,zA,zB,zC,zD,zE,zF,zG,zH,zI,zJ, DH_app hd, DH_len, DH_len0, DH_get hd, DH_get0 hd, DH_set hd, DH_set0 hd, DH_setd, DH_die hd]
 ((repeat refine Ws ?_);refine Wr ?_)
 rw [show fromF u lo hi = spA u lo hi from rfl]
 simp (maxSteps := 1000000) only [VL,VM,↓VG,reduceIte,reduceCtorEq,zA,zB,zC,zD,zE,zF,zG,zH,zI,zJ, DH_app hd, DH_len, DH_len0, DH_get hd, DH_get0 hd, DH_set hd, DH_set0 hd, DH_setd, DH_die hd, k1]
 apply call_eq (f := 19) (fn := Try.f19) (by kernel_rfl) (by rfl)
 ·exact one_c hd (fromU u lo hi) (spL u lo hi) lg (by simp [spL]) (by simp [spL])
 simp (maxSteps := 1000000) only [VL,VM,↓VG,reduceIte,reduceCtorEq,zA,zB,zC,zD,zE,zF,zG,zH,zI,zJ, DH_app hd, DH_len, DH_len0, DH_get hd, DH_get0 hd, DH_set hd, DH_set0 hd, DH_setd, DH_die hd]
 ((repeat refine Ws ?_);refine Wr ?_)
 simp (maxSteps := 1000000) only [VL,VM,↓VG,reduceIte,reduceCtorEq,zA,zB,zC,zD,zE,zF,zG,zH,zI,zJ, DH_app hd, DH_len, DH_len0, DH_get hd, DH_get0 hd, DH_set hd, DH_set0 hd, DH_setd, DH_die hd]
 apply call_eq (f := 32) (fn := Try.f32) (by kernel_rfl) (by rfl)
 ·exact from_c hd (spU2 u lo hi) (spA u lo hi) (spB u lo hi) lg (by omega) (by omega) (by omega) (by omega)
 simp (maxSteps := 1000000) only [VL,VM,↓VG,reduceIte,reduceCtorEq,zA,zB,zC,zD,zE,zF,zG,zH,zI,zJ, DH_app hd, DH_len, DH_len0, DH_get hd, DH_get0 hd, DH_set hd, DH_set0 hd, DH_setd, DH_die hd]
 (repeat refine Ws ?_)
 refine W_ret ?_
 try simp only [thenQ, blockQ]
 refine own_retDc hd (.inr rfl) rfl (Y := spV ⟨spA u lo hi, spC u lo hi⟩) ?_ rfl rfl
 simp [vload, t_span, get_cons, DH_get0 hd, nat_ble, strip1]
 rfl
end Go.Proofs.Ythcicaelnchfdaa.Vm

/- Yards made of numbers, as a function of the numbers, plain. (Vm) -/
namespace Go.Proofs.Ythcicaelnchfdaa.Vm
open Go Go.Proofs
def halfM (m : Int) : Int := m / 2 + 1
def mostT3 (m : Int) : Int := max 1 (m / 3)
def rampS (m : Int) (s : Int × List Ra) : Int × List Ra :=
 let a := castF s.1 (halfM m)
 let v1 := castU s.1 (halfM m)
 let o := oneF v1 [0, a]
 let v2 := oneU v1 [0, a]
 let f := fromF v2 o m
 let v3 := fromU v2 o m
 let h := oneF v3 [m, f]
 let v4 := oneU v3 [m, f]
 (oneU v4 [50, 99], s.2 ++ [⟨o, h, oneF v4 [50, 99]⟩])
def rampsS (m u : Int) : Nat → Int × List Ra
 | 0 => (u, [])
 | n + 1 => rampS m (rampsS m u n)
def pickS (u : Int) : Nat → Int × List Int
 | 0 => (u, [])
 | k + 1 => (castU (pickS u k).1 4, if 0 < castF (pickS u k).1 4 then (pickS u k).2 ++ [(k : Int)] else (pickS u k).2)
def cartS (m : Int) (n : Nat) (s : Int × List Ct) : Int × List Ct :=
 let a := castF s.1 (halfM m)
 let v1 := castU s.1 (halfM m)
 let f := oneF v1 [0, a]
 let v2 := oneU v1 [0, a]
 let t := oneF v2 [3, mostT3 m]
 let v3 := oneU v2 [3, mostT3 m]
 let lo := spA v3 1 t
 let hi := spC v3 1 t
 let v4 := spU v3 1 t
 let g1 := castF v4 50
 let v5 := castU v4 50
 let g2 := castF v5 100
 let v6 := castU v5 100
 let g := oneF v6 [g1, g2]
 let v7 := oneU v6 [g1, g2]
 let w := fromF v7 f m
 let v8 := fromU v7 f m
 let un := oneF v8 [m, w]
 let v9 := oneU v8 [m, w]
 ((pickS v9 n).1, s.2 ++ [⟨f, un, ⟨lo, hi⟩, g, (pickS v9 n).2⟩])
def cartsS (m : Int) (n : Nat) (u : Int) : Nat → Int × List Ct
 | 0 => (u, [])
 | k + 1 => cartS m n (cartsS m n u k)
def yardS (u A B m : Int) : Ya × Int :=
 let s0 := castF u 4
 let v1 := castU u 4
 let sw := oneF v1 [0, 0, s0]
 let v2 := oneU v1 [0, 0, s0]
 let r := rampsS m (fromU v2 1 A) (fromF v2 1 A).toNat
 let c := cartsS m r.2.length (castU r.1 (B + 1)) (castF r.1 (B + 1)).toNat
 (⟨r.2, c.2, sw⟩, c.1)
theorem one2 {u a b : Int} : oneF u [a, b] = a ∨ oneF u [a, b] = b := by
 have := oneF_mem (u := u) (xs := [a, b]) (by simp) (by simp)
 simpa using this
theorem one3 {u a b c : Int} : oneF u [a, b, c] = a ∨ oneF u [a, b, c] = b ∨ oneF u [a, b, c] = c := by
 have := oneF_mem (u := u) (xs := [a, b, c]) (by simp) (by simp)
 simpa using this
theorem halfM_bd {m : Int} (h : 4 ≤ m) : 1 ≤ halfM m ∧ halfM m ≤ m := by
 unfold halfM
 omega
theorem mostT3_bd {m : Int} (h : 4 ≤ m) : 1 ≤ mostT3 m ∧ mostT3 m ≤ m := by
 unfold mostT3
 omega
structure RaM (m : Int) (r : Ra) : Prop where
 o0 : 0 ≤ r.open_
 os : r.open_ ≤ r.shut
 s1 : r.shut ≤ m
 b0 : 0 ≤ r.bears
 b1 : r.bears ≤ 99
structure CtM (nr : Nat) (m : Int) (c : Ct) : Prop where
 f0 : 0 ≤ c.from_
 fu : c.from_ ≤ c.until_
 u1 : c.until_ ≤ m
 l0 : 1 ≤ c.takes.lo
 lh : c.takes.lo ≤ c.takes.hi
 h1 : c.takes.hi ≤ m
 g0 : 0 ≤ c.grams
 g1 : c.grams ≤ 99
 r : ∀ x ∈ c.ramps, 0 ≤ x ∧ x < nr
 asc : c.ramps.Pairwise (· < ·)
structure MadeY (A B m : Int) (y : Ya) : Prop where
 n0 : 1 ≤ y.ramps.length
 n1 : (y.ramps.length : Int) ≤ A
 ra : ∀ r ∈ y.ramps, RaM m r
 m1 : (y.carts.length : Int) ≤ B
 ct : ∀ c ∈ y.carts, CtM y.ramps.length m c
 s0 : 0 ≤ y.sweep
 s1 : y.sweep ≤ 3
theorem MadeY.V {A B m : Int} {y : Ya} (h : MadeY A B m y) (hA : A ≤ 3) (hB : B ≤ 7) (hm : m ≤ 480) : YaV y := by
 have h1 := h.n1
 have h2 := h.m1
 have h3 := h.s1
 refine ⟨h.n0, by omega, fun r hr => ?_, by omega, fun c hc => ?_, h.s0, by omega⟩
 ·have k := h.ra r hr
  have k1 := k.s1
  have k2 := k.b1
  exact ⟨k.o0, k.os, by omega, k.b0, by omega⟩
 ·have k := h.ct c hc
  have k1 := k.u1
  have k2 := k.h1
  have k3 := k.g1
  exact ⟨k.f0, k.fu, by omega, k.l0, k.lh, by omega, k.g0, by omega, k.r, k.asc⟩
theorem rampS_bd {m : Int} (hm : 4 ≤ m ∧ m ≤ 480) {s : Int × List Ra} (h : ∀ r ∈ s.2, RaM m r) : (rampS m s).2.length = s.2.length + 1 ∧ ∀ r ∈ (rampS m s).2, RaM m r := by
 have hh := halfM_bd hm.1
 have c1 := castF_range (u := s.1) (n := halfM m) (by omega)
 unfold rampS
 dsimp only
 generalize castF s.1 (halfM m) = a at c1 ⊢
 generalize castU s.1 (halfM m) = v1
 have o1 := one2 (u := v1) (a := 0) (b := a)
 generalize oneF v1 [0, a] = o at o1 ⊢
 generalize oneU v1 [0, a] = v2
 have f1 := fromF_range (u := v2) (lo := o) (hi := m) (by omega)
 generalize fromF v2 o m = f at f1 ⊢
 generalize fromU v2 o m = v3
 have o2 := one2 (u := v3) (a := m) (b := f)
 generalize oneF v3 [m, f] = g at o2 ⊢
 generalize oneU v3 [m, f] = v4
 have o3 := one2 (u := v4) (a := 50) (b := 99)
 generalize oneF v4 [50, 99] = b at o3 ⊢
 refine ⟨by rw [List.length_append]; rfl, fun r hr => ?_⟩
 rcases List.mem_append.1 hr with hr | hr
 ·exact h r hr
 ·rw [List.mem_singleton] at hr
  subst hr
  refine ⟨?_, ?_, ?_, ?_, ?_⟩ <;> simp only <;> omega
theorem rampsS_bd {m : Int} (hm : 4 ≤ m ∧ m ≤ 480) (u : Int) : ∀ n, (rampsS m u n).2.length = n ∧ ∀ r ∈ (rampsS m u n).2, RaM m r
 | 0 => ⟨rfl, fun _ h => nomatch h⟩
 | n + 1 => by
  obtain ⟨h1, h2⟩ := rampsS_bd hm u n
  obtain ⟨h3, h4⟩ := rampS_bd hm h2
  exact ⟨by rw [rampsS, h3, h1], h4⟩
theorem pickS_bd (u : Int) : ∀ n : Nat, (pickS u n).2.length ≤ n ∧ (∀ x ∈ (pickS u n).2, 0 ≤ x ∧ x < (n : Int)) ∧ (pickS u n).2.Pairwise (· < ·)
 | 0 => ⟨Nat.le_refl 0, ⟨fun x h => (by cases h), List.Pairwise.nil⟩⟩
 | n + 1 => by
  obtain ⟨h1, h2, h3⟩ := pickS_bd u n
  rw [pickS]
  split
  ·refine ⟨by rw [List.length_append]; simp; omega, fun x hx => ?_, ?_⟩
   ·rcases List.mem_append.1 hx with hx | hx
    ·have := h2 x hx; omega
    ·rw [List.mem_singleton] at hx; subst hx; omega
   ·rw [List.pairwise_append]
    refine ⟨h3, List.pairwise_singleton _ _, fun a ha b hb => ?_⟩
    rw [List.mem_singleton] at hb
    subst hb
    exact (h2 a ha).2
  ·exact ⟨by simp only; omega, fun x hx => (by have := h2 x hx; omega), h3⟩
theorem cartS_bd {m : Int} {n : Nat} (hm : 4 ≤ m ∧ m ≤ 480) {s : Int × List Ct} (h : ∀ c ∈ s.2, CtM n m c) : (cartS m n s).2.length = s.2.length + 1 ∧ ∀ c ∈ (cartS m n s).2, CtM n m c := by
 have hh := halfM_bd hm.1
 have h3 := mostT3_bd hm.1
 have c1 := castF_range (u := s.1) (n := halfM m) (by omega)
 unfold cartS
 dsimp only
 generalize castF s.1 (halfM m) = a at c1 ⊢
 generalize castU s.1 (halfM m) = v1
 have o1 := one2 (u := v1) (a := 0) (b := a)
 generalize oneF v1 [0, a] = f at o1 ⊢
 generalize oneU v1 [0, a] = v2
 have o2 := one2 (u := v2) (a := 3) (b := mostT3 m)
 generalize oneF v2 [3, mostT3 m] = t at o2 ⊢
 generalize oneU v2 [3, mostT3 m] = v3
 obtain ⟨p1, p2, p3, p4, p5⟩ := sp_range (u := v3) (lo := 1) (hi := t) (by omega) (by omega) (by omega)
 generalize spA v3 1 t = lo at p1 p2 p4 ⊢
 generalize spB v3 1 t = mid at p2 p3
 generalize spC v3 1 t = hi at p4 p5 ⊢
 generalize spU v3 1 t = v4
 have c2 := castF_range (u := v4) (n := 50) (by omega)
 generalize castF v4 50 = g1 at c2 ⊢
 generalize castU v4 50 = v5
 have c3 := castF_range (u := v5) (n := 100) (by omega)
 generalize castF v5 100 = g2 at c3 ⊢
 generalize castU v5 100 = v6
 have o3 := one2 (u := v6) (a := g1) (b := g2)
 generalize oneF v6 [g1, g2] = g at o3 ⊢
 generalize oneU v6 [g1, g2] = v7
 have f1 := fromF_range (u := v7) (lo := f) (hi := m) (by omega)
 generalize fromF v7 f m = w at f1 ⊢
 generalize fromU v7 f m = v8
 have o4 := one2 (u := v8) (a := m) (b := w)
 generalize oneF v8 [m, w] = un at o4 ⊢
 generalize oneU v8 [m, w] = v9
 obtain ⟨q1, q2, q3⟩ := pickS_bd v9 n
 refine ⟨by rw [List.length_append]; rfl, fun r hr => ?_⟩
 rcases List.mem_append.1 hr with hr | hr
 ·exact h r hr
 ·rw [List.mem_singleton] at hr
  subst hr
  refine ⟨?_, ?_, ?_, ?_, ?_, ?_, ?_, ?_, q2, q3⟩ <;> simp only <;> omega
theorem cartsS_bd {m : Int} {n : Nat} (hm : 4 ≤ m ∧ m ≤ 480) (u : Int) : ∀ k, (cartsS m n u k).2.length = k ∧ ∀ c ∈ (cartsS m n u k).2, CtM n m c
 | 0 => ⟨rfl, fun _ h => nomatch h⟩
 | k + 1 => by
  obtain ⟨h1, h2⟩ := cartsS_bd (n := n) hm u k
  obtain ⟨h3, h4⟩ := cartS_bd hm h2
  exact ⟨by rw [cartsS, h3, h1], h4⟩
theorem yardS_made {u A B m : Int} (hA : 1 ≤ A ∧ A ≤ 3) (hB : 0 ≤ B ∧ B ≤ 7) (hm : 4 ≤ m ∧ m ≤ 480) : MadeY A B m (yardS u A B m).1 := by
 have c1 := castF_range (u := u) (n := 4) (by omega)
 unfold yardS
 dsimp only
 generalize castF u 4 = s0 at c1 ⊢
 generalize castU u 4 = v1
 have o1 := one3 (u := v1) (a := 0) (b := 0) (c := s0)
 generalize oneF v1 [0, 0, s0] = sw at o1 ⊢
 generalize oneU v1 [0, 0, s0] = v2
 have f1 := fromF_range (u := v2) (lo := 1) (hi := A) (by omega)
 generalize fromF v2 1 A = w at f1 ⊢
 generalize fromU v2 1 A = v3
 obtain ⟨h1, h2⟩ := rampsS_bd hm v3 w.toNat
 generalize rampsS m v3 w.toNat = r at h1 h2 ⊢
 have c2 := castF_range (u := r.1) (n := B + 1) (by omega)
 generalize castF r.1 (B + 1) = z at c2 ⊢
 generalize castU r.1 (B + 1) = v4
 obtain ⟨h3, h4⟩ := cartsS_bd (n := r.2.length) hm v4 z.toNat
 generalize cartsS m r.2.length v4 z.toNat = c at h3 h4 ⊢
 refine ⟨?_, ?_, h2, ?_, h4, ?_, ?_⟩ <;> simp only <;> omega
end Go.Proofs.Ythcicaelnchfdaa.Vm

/- Yards made of numbers, on values. (Vm) -/
namespace Go.Proofs.Ythcicaelnchfdaa.Vm
open Go Go.Proofs
theorem addLg_hasY {id r : Nat} {lg : List (Nat × Nat)} (h : (id, r) ∈ lg) : addLg id [r] lg = lg := by
 unfold addLg
 have h1 : (lg.any fun e => Nat.beq e.1 id && Nat.beq e.2 r) = true := List.any_eq_true.2 ⟨(id, r), h, by simp⟩
 have h2 : List.filter (fun r => Nat.blt id r && !(lg.any fun e => Nat.beq e.1 id && Nat.beq e.2 r)) [r] = [] := by
  rw [List.filter_cons]
  simp [h1]
 rw [h2]
theorem dspan_c {H0 : List VObj} {d : Nat} (hd : d < H0.length) (u lo hi : Int) {L : List VObj} (lg : List (Nat × Nat)) (h0 : 0 ≤ lo) (h1 : lo ≤ hi) (h2 : hi ≤ 100000000) : VC Try.prog 60 [.ptr d 0, vi lo, vi hi] ⟨DH H0 d u L, lg⟩ (fun r M' => M' = ⟨DH H0 d (spU u lo hi) L, lg⟩ ∧ r = spV ⟨spA u lo hi, spC u lo hi⟩) := by
 rw [DH_base, DH_base (u := spU u lo hi)]
 exact dspan_v (by rw [List.length_append]; omega) u lo hi lg h0 h1 h2
structure YaA where
 u : Int
 rs : List Ra
structure YaB where
 u : Int
 cs : List Ct
 junk : List VObj
 lx : List (Nat × Nat)
structure YaC where
 u : Int
 k : Nat
 ps : List Int
attribute [local irreducible] castF castU fromF fromU oneF oneU spA spC spU
set_option maxHeartbeats 4000000 in
set_option maxRecDepth 8000 in
theorem yardOf_d {H0 : List VObj} {d : Nat} (hd : d < H0.length) (u : Int) (lg : List (Nat × Nat)) (A B m : Int) (hA : 1 ≤ A ∧ A ≤ 3) (hB : 0 ≤ B ∧ B ≤ 7) (hm : 4 ≤ m ∧ m ≤ 480) :
  VC Try.prog 18 [.ptr d 0, vi A, vi B, vi m] ⟨DH H0 d u [], lg⟩ (fun r M' => M' = ⟨DH H0 d (yardS u A B m).2 [], lg⟩ ∧ r = yardV (yardS u A B m).1) := by
 suffices hh : VC Try.prog 18 [.ptr d 0, vi A, vi B, vi m] ⟨DH H0 d u [], lg⟩ (fun r M' => ∃ (y : Ya) (u' : Int), M' = ⟨DH H0 d u' [], lg⟩ ∧ r = yardV y ∧ yardS u A B m = (y, u')) by
  refine hh.mono ?_
  rintro _ _ ⟨k, u', rfl, rfl, e⟩
  rw [e]
  exact ⟨rfl, rfl⟩
 have kq : 0 ≤ m ∧ m < 9223372036854775808 := by omega
 have kh : -9223372036854775808 ≤ m / 2 + 1 ∧ m / 2 + 1 < 9223372036854775808 := by omega
 have hH := halfM_bd hm.1
 have h3 := mostT3_bd hm.1
 have hY : yardS u A B m = yardS u A B m := rfl
 conv at hY => rhs; unfold yardS; dsimp only
 refine VC_own' T_ok (f := 18) (fn := Try.f18) (by kernel_rfl) rfl Try.ntmps18 (by rfl) (by rfl) ?_
 ((repeat refine Ws ?_);refine Wr ?_)
 simp (maxSteps := 1000000) only [VL,VM,↓VG,reduceIte,reduceCtorEq,zA,zB,zC,zD,zE,zF,zG,zH,zI,zJ, DH_app hd, DH_len, DH_len0, DH_get hd, DH_get0 hd, DH_set hd, DH_set0 hd, DH_setd, DH_die hd]
 ((repeat refine Ws ?_);refine Wr ?_)
 simp (maxSteps := 1000000) only [VL,VM,↓VG,reduceIte,reduceCtorEq,zA,zB,zC,zD,zE,zF,zG,zH,zI,zJ, DH_app hd, DH_len, DH_len0, DH_get hd, DH_get0 hd, DH_set hd, DH_set0 hd, DH_setd, DH_die hd]
 apply call_eq (f := 33) (fn := Try.f33) (by kernel_rfl) (by rfl)
 ·exact cast_c hd u 4 lg (by omega)
 generalize castF u 4 = s0 at hY ⊢
 generalize castU u 4 = v1 at hY ⊢
 simp (maxSteps := 1000000) only [VL,VM,↓VG,reduceIte,reduceCtorEq,zA,zB,zC,zD,zE,zF,zG,zH,zI,zJ, DH_app hd, DH_len, DH_len0, DH_get hd, DH_get0 hd, DH_set hd, DH_set0 hd, DH_setd, DH_die hd]
 apply call_eq (f := 19) (fn := Try.f19) (by kernel_rfl) (by rfl)
 ·exact one_c hd v1 [0, 0, s0] lg (by simp) (by simp)
 generalize oneF v1 [0, 0, s0] = sw at hY ⊢
 generalize oneU v1 [0, 0, s0] = v2 at hY ⊢
 simp (maxSteps := 1000000) only [VL,VM,↓VG,reduceIte,reduceCtorEq,zA,zB,zC,zD,zE,zF,zG,zH,zI,zJ, DH_app hd, DH_len, DH_len0, DH_get hd, DH_get0 hd, DH_set hd, DH_set0 hd, DH_setd, DH_die hd]
 refine W_ghost (id := H0.length + 1) (off := 0) (k := 3) (k0 := 0) (by rw [DH_get hd]; rfl) rfl ?_
 simp (maxSteps := 1000000) only [VL,VM,↓VG,reduceIte,reduceCtorEq,zA,zB,zC,zD,zE,zF,zG,zH,zI,zJ, DH_app hd, DH_len, DH_len0, DH_get hd, DH_get0 hd, DH_set hd, DH_set0 hd, DH_setd, DH_die hd]
 refine W_ghost (id := H0.length + 1) (off := 1) (k := 6) (k0 := 0) (by rw [DH_get hd]; rfl) rfl ?_
 simp (maxSteps := 1000000) only [VL,VM,↓VG,reduceIte,reduceCtorEq,zA,zB,zC,zD,zE,zF,zG,zH,zI,zJ, DH_app hd, DH_len, DH_len0, DH_get hd, DH_get0 hd, DH_set hd, DH_set0 hd, DH_setd, DH_die hd]
 obtain ⟨n, hn⟩ : ∃ n, H0.length = n := ⟨_, rfl⟩
 rw [hn] at hd ⊢
 obtain ⟨lgA, hlg⟩ : ∃ lgA, lgA = lg ++ [(n + 1, n + 2), (n + 1, n + 3)] := ⟨_, rfl⟩
 rw [← hlg]
 have A2 : addLg (n + 1) [n + 2] lgA = lgA := addLg_hasY (by rw [hlg]; simp)
 have dg : ∀ u L k, (DH H0 d u L)[n + k]? = L[k]? := fun u L k => by rw [← hn]; exact DH_get (hn ▸ hd) k
 have dg0 : ∀ u L, (DH H0 d u L)[n]? = L[0]? := fun u L => by rw [← hn]; exact DH_get0 (hn ▸ hd)
 have ds : ∀ u L k o, (DH H0 d u L).set (n + k) o = DH H0 d u (L.set k o) := fun u L k o => by rw [← hn]; exact DH_set (hn ▸ hd) k o
 have ds0 : ∀ u L o, (DH H0 d u L).set n o = DH H0 d u (L.set 0 o) := fun u L o => by rw [← hn]; exact DH_set0 (hn ▸ hd) o
 have dl : ∀ u L, (DH H0 d u L).length = n + L.length := fun u L => by rw [← hn]; exact DH_len
 have da : ∀ u L X, DH H0 d u L ++ X = DH H0 d u (L ++ X) := fun u L X => DH_app (hn ▸ hd) X
 have hd' : d < H0.length := by rw [hn]; exact hd
 have f1 := fromF_range (u := v2) (lo := 1) (hi := A) (by omega)
 ((repeat refine Ws ?_);refine Wr ?_)
 simp (maxSteps := 1000000) only [VL,VM,↓VG,reduceIte,reduceCtorEq,zA,zB,zC,zD,zE,zF,zG,zH,zI,zJ]
 apply call_eq (f := 32) (fn := Try.f32) (by kernel_rfl) (by rfl)
 ·exact from_c hd' v2 1 A lgA (by omega) (by omega) (by omega) (by omega)
 generalize fromF v2 1 A = w at f1 hY ⊢
 generalize fromU v2 1 A = v3 at hY ⊢
 obtain ⟨nr, rfl⟩ : ∃ k : Nat, w = (k : Int) := ⟨w.toNat, by omega⟩
 rw [Int.toNat_natCast] at hY
 have hnr : nr ≤ 3 := by omega
 simp (maxSteps := 1000000) only [VL,VM,↓VG,reduceIte,reduceCtorEq,zA,zB,zC,zD,zE,zF,zG,zH,zI,zJ]
 ((repeat refine Ws ?_);refine W_block ?_; (repeat refine Ws ?_)); refine W_loopS (fun s : YaA => [(0, .ptr d 0), (2, vi B), (3, vi m), (8, .ptr n 0), (9, .ptr (n + 1) 0), (10, vi ((nr : Int) - (s.rs.length : Int)))]) (fun s => ⟨DH H0 d s.u [.obj [.sf 0 [], .sf 0 [], vi 0], .obj [.so (n + 2) 3 (s.rs.map raP), .so (n + 3) 6 [], vi sw], .clm s.rs.length 3, .clm 0 6], lgA⟩) (fun s => nr - s.rs.length) (fun s => s.rs.length ≤ nr ∧ rampsS m v3 s.rs.length = (s.u, s.rs)) ⟨v3, []⟩ ⟨Nat.zero_le _, rfl⟩ ⟨rfl, rfl, rfl, rfl, rfl, by simp [get_cons], trivial⟩ rfl ?_
 rintro ⟨v, rs⟩ ⟨hrl, hrs⟩
 simp only at hrl hrs
 ((repeat refine Ws ?_);refine W_regionE T_ok ?_; intro Kn hKn)
 rcases Nat.lt_or_ge rs.length nr with hlt | hge
 ·have k2 : ((0 : Int) < (nr : Int) - (rs.length : Int)) = True := eq_true (by omega)
  have k3 : -9223372036854775808 ≤ (nr : Int) - (rs.length : Int) - 1 ∧ (nr : Int) - (rs.length : Int) - 1 < 9223372036854775808 := by omega
  have q1 : ((rs.length + 1) * 24 ≤ 140737488355328) = True := eq_true (by omega)
  ((simp (maxSteps := 1000000) only [VL,VM,↓VG,reduceIte,reduceCtorEq,zA,zB,zC,zD,zE,zF,zG,zH,zI,zJ, k2]); rw [hKn];clear hKn Kn;simp only [QV,reduceIte,reduceCtorEq,Nat.reduceEqDiff])
  ((repeat refine Ws ?_);refine Wt (by first|rfl|simp only [EV,zF,reduceIte]) ?_)
  (((repeat refine Ws ?_);refine W_skip ?_); simp only [QV,reduceIte,reduceCtorEq,Nat.reduceEqDiff])
  ((repeat refine Ws ?_);refine W_block ?_)
  have hst : rampsS m v3 (rs.length + 1) = rampS m (v, rs) := by rw [rampsS, hrs]
  unfold rampS at hst
  dsimp only at hst
  ((repeat refine Ws ?_);refine W_regionE T_ok ?_; intro Kn hKn)
  simp (maxSteps := 1000000) only [VL,VM,↓VG,reduceIte,reduceCtorEq,zA,zB,zC,zD,zE,zF,zG,zH,zI,zJ, kq, kh]
  apply call_eq (f := 33) (fn := Try.f33) (by kernel_rfl) (by rfl)
  ·exact cast_c hd' v (halfM m) lgA (by omega)
  have c1 := castF_range (u := v) (n := halfM m) (by omega)
  generalize castF v (halfM m) = a at c1 hst ⊢
  generalize castU v (halfM m) = v4 at hst ⊢
  simp (maxSteps := 1000000) only [VL,VM,↓VG,reduceIte,reduceCtorEq,zA,zB,zC,zD,zE,zF,zG,zH,zI,zJ]
  apply call_eq (f := 19) (fn := Try.f19) (by kernel_rfl) (by rfl)
  ·exact one_c hd' v4 [0, a] lgA (by simp) (by simp)
  have o1 := one2 (u := v4) (a := 0) (b := a)
  generalize oneF v4 [0, a] = o at o1 hst ⊢
  generalize oneU v4 [0, a] = v5 at hst ⊢
  have ho : 0 ≤ o ∧ o ≤ m := by omega
  clear o1 c1
  ((simp (maxSteps := 1000000) only [VL,VM,↓VG,reduceIte,reduceCtorEq,zA,zB,zC,zD,zE,zF,zG,zH,zI,zJ]); rw [hKn];clear hKn Kn;simp only [QV,reduceIte,reduceCtorEq,Nat.reduceEqDiff])
  (repeat refine Ws ?_)
  refine W_drawE T_ok [] (by kernel_rfl) (by kernel_rfl) ?_
  intro Kn hKn
  generalize hi : mkPlan _ = infs
  cbv at hi
  subst hi
  replace ho : 0 ≤ o ∧ o ≤ m := ho
  simp (maxSteps := 1000000) only [VL,VM,↓VG,reduceIte,reduceCtorEq,zA,zB,zC,zD,zE,zF,zG,zH,zI,zJ, dg, dg0, ds, ds0, dl, da]
  apply call_d (f := 32) (fn := Try.f32) (by kernel_rfl) (by rfl)
  ·exact from_c hd' v5 o m lgA (by omega) (by omega) (by omega) (by omega)
  generalize fromF v5 o m = f at hst ⊢
  generalize fromU v5 o m = v6 at hst ⊢
  simp (maxSteps := 1000000) only [VL,VM,↓VG,reduceIte,reduceCtorEq,zA,zB,zC,zD,zE,zF,zG,zH,zI,zJ, dg, dg0, ds, ds0, dl, da]
  apply call_d (f := 19) (fn := Try.f19) (by kernel_rfl) (by rfl)
  ·exact one_c hd' v6 [m, f] lgA (by simp) (by simp)
  generalize oneF v6 [m, f] = g at hst ⊢
  generalize oneU v6 [m, f] = v7 at hst ⊢
  simp (maxSteps := 1000000) only [VL,VM,↓VG,reduceIte,reduceCtorEq,zA,zB,zC,zD,zE,zF,zG,zH,zI,zJ, dg, dg0, ds, ds0, dl, da]
  apply call_d (f := 19) (fn := Try.f19) (by kernel_rfl) (by rfl)
  ·exact one_c hd' v7 [50, 99] lgA (by simp) (by simp)
  generalize oneF v7 [50, 99] = b at hst ⊢
  generalize oneU v7 [50, 99] = v8 at hst ⊢
  ((simp (maxSteps := 1000000) only [VL,VM,↓VG,reduceIte,reduceCtorEq,zA,zB,zC,zD,zE,zF,zG,zH,zI,zJ, dg, dg0, ds, ds0, dl, da, q1, A2]); rw [hKn];clear hKn Kn;simp only [QV,reduceIte,reduceCtorEq,Nat.reduceEqDiff])
  ((repeat refine Ws ?_);refine W_regionE T_ok ?_; intro Kn hKn)
  ((simp (maxSteps := 1000000) only [VL,VM,↓VG,reduceIte,reduceCtorEq,zA,zB,zC,zD,zE,zF,zG,zH,zI,zJ, k3]); rw [hKn];clear hKn Kn;simp only [QV,reduceIte,reduceCtorEq,Nat.reduceEqDiff])
  refine LoopK.mk ⟨v8, rs ++ [⟨o, g, b⟩]⟩ (by simp; omega) ⟨by simp; omega, ?_⟩ ⟨rfl, rfl, rfl, rfl, rfl, ?_, trivial⟩ (by simp)
  ·simpa using hst
  ·simp only [List.length_append, List.length_cons, List.length_nil]
   have e9 : (nr : Int) - (rs.length : Int) - 1 = (nr : Int) - ((rs.length + 1 : Nat) : Int) := by omega
   show vi ((nr : Int) - (rs.length : Int) - 1) = vi ((nr : Int) - ((rs.length + 1 : Nat) : Int))
   rw [e9]
 have k2 : ((0 : Int) < (nr : Int) - (rs.length : Int)) = False := eq_false (by omega)
 have hnl : rs.length = nr := by omega
 have hnr1 : rs.length ≤ 3 := by omega
 rw [hnl] at hrs
 rw [hrs] at hY
 dsimp only at hY
 ((simp (maxSteps := 1000000) only [VL,VM,↓VG,reduceIte,reduceCtorEq,zA,zB,zC,zD,zE,zF,zG,zH,zI,zJ, k2]); rw [hKn];clear hKn Kn;simp only [QV,reduceIte,reduceCtorEq,Nat.reduceEqDiff])
 ((repeat refine Ws ?_);refine Wf (by first|rfl|simp only [EV,zF,reduceIte]) ?_)
 (((repeat refine Ws ?_);refine W_exit ?_); simp only [QV,reduceIte,reduceCtorEq,Nat.reduceEqDiff])
 have kB : -9223372036854775808 ≤ B + 1 ∧ B + 1 < 9223372036854775808 := by omega
 have rd1 := castF_range (u := v) (n := B + 1) (by omega)
 ((repeat refine Ws ?_);refine Wr ?_)
 simp (maxSteps := 1000000) only [VL,VM,↓VG,reduceIte,reduceCtorEq,zA,zB,zC,zD,zE,zF,zG,zH,zI,zJ, kB]
 apply call_eq (f := 33) (fn := Try.f33) (by kernel_rfl) (by rfl)
 ·exact cast_c hd' v (B + 1) lgA (by omega)
 generalize castU v (B + 1) = u2 at hY ⊢
 generalize castF v (B + 1) = w at rd1 hY ⊢
 obtain ⟨nc, rfl⟩ : ∃ m : Nat, w = (m : Int) := ⟨w.toNat, by omega⟩
 have hnc : nc ≤ 7 := by omega
 rw [Int.toNat_natCast] at hY
 clear rd1 k2 hge hrl hrs f1 hnr
 simp (maxSteps := 1000000) only [VL,VM,↓VG,reduceIte,reduceCtorEq,zA,zB,zC,zD,zE,zF,zG,zH,zI,zJ]
 ((repeat refine Ws ?_);refine W_block ?_; (repeat refine Ws ?_)); refine W_loopS (fun s : YaB => [(0, .ptr d 0), (3, vi m), (8, .ptr n 0), (9, .ptr (n + 1) 0), (12, vi ((nc : Int) - (s.cs.length : Int)))]) (fun s => ⟨DH H0 d s.u (.obj [.sf 0 [], .sf 0 [], vi 0] :: .obj [.so (n + 2) 3 (rs.map raP), .so (n + 3) 6 (s.cs.map ctP), vi sw] :: .clm rs.length 3 :: .clm s.cs.length 6 :: s.junk), lgA ++ s.lx⟩) (fun s => nc - s.cs.length) (fun s => s.cs.length ≤ nc ∧ (∀ e ∈ s.lx, n ≤ e.1) ∧ cartsS m rs.length u2 s.cs.length = (s.u, s.cs)) ⟨u2, [], [], []⟩ ⟨Nat.zero_le _, (fun _ h => by cases h), rfl⟩ ⟨rfl, rfl, rfl, rfl, by simp [get_cons], trivial⟩ (by simp) ?_
 rintro ⟨v, cs, junk, lx⟩ ⟨hcl, hlx, hcs⟩
 simp only at hcl hlx hcs
 ((repeat refine Ws ?_);refine W_regionE T_ok ?_; intro Kn hKn)
 rcases Nat.lt_or_ge cs.length nc with hlt | hge
 rotate_left
 ·have k2 : ((0 : Int) < (nc : Int) - (cs.length : Int)) = False := eq_false (by omega)
  have hnl : cs.length = nc := by omega
  rw [hnl] at hcs
  rw [hcs] at hY
  dsimp only at hY
  ((simp (maxSteps := 1000000) only [VL,VM,↓VG,reduceIte,reduceCtorEq,zA,zB,zC,zD,zE,zF,zG,zH,zI,zJ, k2]); rw [hKn];clear hKn Kn;simp only [QV,reduceIte,reduceCtorEq,Nat.reduceEqDiff])
  ((repeat refine Ws ?_);refine Wf (by first|rfl|simp only [EV,zF,reduceIte]) ?_)
  (((repeat refine Ws ?_);refine W_exit ?_); simp only [QV,reduceIte,reduceCtorEq,Nat.reduceEqDiff])
  ((repeat refine Ws ?_);refine W_regionE T_ok ?_; intro Kn hKn)
  ((simp (maxSteps := 1000000) only [VL,VM,↓VG,reduceIte,reduceCtorEq,zA,zB,zC,zD,zE,zF,zG,zH,zI,zJ, dg, dg0, ds, ds0, dl, da]); rw [hKn];clear hKn Kn;simp only [QV,reduceIte,reduceCtorEq,Nat.reduceEqDiff])
  (repeat refine Ws ?_)
  refine W_ret ?_
  try simp only [thenQ, blockQ]
  refine ⟨.inr rfl, rfl, ⟨[(n + 1, n + 2), (n + 1, n + 3)] ++ lx, by rw [hlg, List.append_assoc], fun e he => ?_⟩, DH H0 d v [], _, DH_eq hd', by rw [DH_len, DH_len], [yardV ⟨rs, cs, sw⟩], ?_, yardV ⟨rs, cs, sw⟩, ?_, by simp [refs, refsL], ⟨rs, cs, sw⟩, v, rfl, rfl, hY⟩
  ·rw [DH_len]
   simp only [List.length_nil, Nat.add_zero]
   rw [hn]
   rcases List.mem_append.1 he with he | he
   ·simp only [List.mem_cons, List.not_mem_nil, or_false] at he
    rcases he with rfl | rfl <;> simp
   ·exact hlx e he
  ·simp [Try.f18, vresL, get_cons, vload, t_yard, dg0, nat_ble, strip1]
  ·simp [vtup, frz, frzL]
 have k2 : ((0 : Int) < (nc : Int) - (cs.length : Int)) = True := eq_true (by omega)
 have k3 : -9223372036854775808 ≤ (nc : Int) - (cs.length : Int) - 1 ∧ (nc : Int) - (cs.length : Int) - 1 < 9223372036854775808 := by omega
 have q1 : ((cs.length + 1) * 64 ≤ 140737488355328) = True := eq_true (by omega)
 ((simp (maxSteps := 1000000) only [VL,VM,↓VG,reduceIte,reduceCtorEq,zA,zB,zC,zD,zE,zF,zG,zH,zI,zJ, k2]); rw [hKn];clear hKn Kn;simp only [QV,reduceIte,reduceCtorEq,Nat.reduceEqDiff])
 ((repeat refine Ws ?_);refine Wt (by first|rfl|simp only [EV,zF,reduceIte]) ?_)
 (((repeat refine Ws ?_);refine W_skip ?_); simp only [QV,reduceIte,reduceCtorEq,Nat.reduceEqDiff])
 ((repeat refine Ws ?_);refine W_block ?_)
 have hst : cartsS m rs.length u2 (cs.length + 1) = cartS m rs.length (v, cs) := by rw [cartsS, hcs]
 unfold cartS at hst
 dsimp only at hst
 obtain ⟨L1, hL1⟩ : ∃ L1, L1 = VObj.obj [.sf 0 [], .sf 0 [], vi 0] :: .obj [.so (n + 2) 3 (rs.map raP), .so (n + 3) 6 (cs.map ctP), vi sw] :: .clm rs.length 3 :: .clm cs.length 6 :: junk := ⟨_, rfl⟩
 obtain ⟨H1, hH1⟩ : ∃ H1, H1 = H0 ++ L1 := ⟨_, rfl⟩
 have hd1 : d < H1.length := by rw [hH1, List.length_append]; omega
 have gy : ∀ u L, (DH H1 d u L)[n + 1]? = some (VObj.obj [.so (n + 2) 3 (rs.map raP), .so (n + 3) 6 (cs.map ctP), vi sw]) := fun u L => by
  have : DH H1 d u L = DH H0 d u (L1 ++ L) := by rw [hH1, DH_base, List.append_assoc, ← DH_base]
  rw [this, dg, hL1]; rfl
 have hl1 : n + 4 ≤ H1.length := by rw [hH1, List.length_append, hn, hL1]; simp
 rw [← hL1, show DH H0 d v L1 = DH H1 d v [] by rw [hH1, DH_base]]
 have A3 : addLg (n + 1) [n + 3] (lgA ++ (lx ++ [(H1.length, H1.length + 1)])) = lgA ++ (lx ++ [(H1.length, H1.length + 1)]) := addLg_hasY (by rw [hlg]; simp)
 have A4 : addLg H1.length [H1.length + 1] (lgA ++ (lx ++ [(H1.length, H1.length + 1)])) = lgA ++ (lx ++ [(H1.length, H1.length + 1)]) := addLg_hasY (by simp)
 have kt : 0 ≤ m ∧ m < 9223372036854775808 := kq
 ((repeat refine Ws ?_);refine Wr ?_)
 simp (maxSteps := 1000000) only [VL,VM,↓VG,reduceIte,reduceCtorEq,zA,zB,zC,zD,zE,zF,zG,zH,zI,zJ, kq, kh, DH_app hd1, DH_len, DH_len0, DH_get hd1, DH_get0 hd1, DH_set hd1, DH_set0 hd1]
 apply call_eq (f := 33) (fn := Try.f33) (by kernel_rfl) (by rfl)
 ·exact cast_c hd1 v (halfM m) _ (by omega)
 have c1 := castF_range (u := v) (n := halfM m) (by omega)
 generalize castF v (halfM m) = a at c1 hst ⊢
 generalize castU v (halfM m) = v4 at hst ⊢
 simp (maxSteps := 1000000) only [VL,VM,↓VG,reduceIte,reduceCtorEq,zA,zB,zC,zD,zE,zF,zG,zH,zI,zJ]
 apply call_eq (f := 19) (fn := Try.f19) (by kernel_rfl) (by rfl)
 ·exact one_c hd1 v4 [0, a] _ (by simp) (by simp)
 have o1 := one2 (u := v4) (a := 0) (b := a)
 generalize oneF v4 [0, a] = f at o1 hst ⊢
 generalize oneU v4 [0, a] = v5 at hst ⊢
 have ho : 0 ≤ f ∧ f ≤ m := by omega
 clear o1 c1
 simp (maxSteps := 1000000) only [VL,VM,↓VG,reduceIte,reduceCtorEq,zA,zB,zC,zD,zE,zF,zG,zH,zI,zJ, kq]
 apply call_eq (f := 19) (fn := Try.f19) (by kernel_rfl) (by rfl)
 ·exact one_c hd1 v5 [3, mostT3 m] _ (by simp) (by simp)
 have o2 := one2 (u := v5) (a := 3) (b := mostT3 m)
 generalize oneF v5 [3, mostT3 m] = t at o2 hst ⊢
 generalize oneU v5 [3, mostT3 m] = v6 at hst ⊢
 have ht : 1 ≤ t ∧ t ≤ m := by omega
 clear o2
 simp (maxSteps := 1000000) only [VL,VM,↓VG,reduceIte,reduceCtorEq,zA,zB,zC,zD,zE,zF,zG,zH,zI,zJ]
 apply call_eq (f := 60) (fn := Try.f60) (by kernel_rfl) (by rfl)
 ·exact dspan_c hd1 v6 1 t _ (by omega) (by omega) (by omega)
 generalize spA v6 1 t = lo at hst ⊢
 generalize spC v6 1 t = hi at hst ⊢
 generalize spU v6 1 t = v7 at hst ⊢
 simp (maxSteps := 1000000) only [VL,VM,↓VG,reduceIte,reduceCtorEq,zA,zB,zC,zD,zE,zF,zG,zH,zI,zJ]
 apply call_eq (f := 33) (fn := Try.f33) (by kernel_rfl) (by rfl)
 ·exact cast_c hd1 v7 50 _ (by omega)
 generalize castF v7 50 = g1 at hst ⊢
 generalize castU v7 50 = v8 at hst ⊢
 simp (maxSteps := 1000000) only [VL,VM,↓VG,reduceIte,reduceCtorEq,zA,zB,zC,zD,zE,zF,zG,zH,zI,zJ]
 apply call_eq (f := 33) (fn := Try.f33) (by kernel_rfl) (by rfl)
 ·exact cast_c hd1 v8 100 _ (by omega)
 generalize castF v8 100 = g2 at hst ⊢
 generalize castU v8 100 = v9 at hst ⊢
 simp (maxSteps := 1000000) only [VL,VM,↓VG,reduceIte,reduceCtorEq,zA,zB,zC,zD,zE,zF,zG,zH,zI,zJ]
 apply call_eq (f := 19) (fn := Try.f19) (by kernel_rfl) (by rfl)
 ·exact one_c hd1 v9 [g1, g2] _ (by simp) (by simp)
 generalize oneF v9 [g1, g2] = g at hst ⊢
 generalize oneU v9 [g1, g2] = v10 at hst ⊢
 simp (maxSteps := 1000000) only [VL,VM,↓VG,reduceIte,reduceCtorEq,zA,zB,zC,zD,zE,zF,zG,zH,zI,zJ, DH_app hd1, DH_len, DH_len0, DH_get hd1, DH_get0 hd1, DH_set hd1, DH_set0 hd1]
 ((repeat refine Ws ?_);refine Wr ?_)
 simp (maxSteps := 1000000) only [VL,VM,↓VG,reduceIte,reduceCtorEq,zA,zB,zC,zD,zE,zF,zG,zH,zI,zJ, DH_app hd1, DH_len, DH_len0, DH_get hd1, DH_get0 hd1, DH_set hd1, DH_set0 hd1]
 apply call_eq (f := 32) (fn := Try.f32) (by kernel_rfl) (by rfl)
 ·exact from_c hd1 v10 f m _ (by omega) (by omega) (by omega) (by omega)
 generalize fromF v10 f m = w at hst ⊢
 generalize fromU v10 f m = v11 at hst ⊢
 simp (maxSteps := 1000000) only [VL,VM,↓VG,reduceIte,reduceCtorEq,zA,zB,zC,zD,zE,zF,zG,zH,zI,zJ]
 apply call_eq (f := 19) (fn := Try.f19) (by kernel_rfl) (by rfl)
 ·exact one_c hd1 v11 [m, w] _ (by simp) (by simp)
 generalize oneF v11 [m, w] = un at hst ⊢
 generalize oneU v11 [m, w] = v12 at hst ⊢
 simp (maxSteps := 1000000) only [VL,VM,↓VG,reduceIte,reduceCtorEq,zA,zB,zC,zD,zE,zF,zG,zH,zI,zJ, DH_app hd1, DH_len, DH_len0, DH_get hd1, DH_get0 hd1, DH_set hd1, DH_set0 hd1]
 refine W_ghost (id := H1.length) (off := 5) (k := 1) (k0 := 0) (by rw [DH_get0 hd1]; rfl) rfl ?_
 simp (maxSteps := 1000000) only [VL,VM,↓VG,reduceIte,reduceCtorEq,zA,zB,zC,zD,zE,zF,zG,zH,zI,zJ, DH_app hd1, DH_len, DH_len0, DH_get hd1, DH_get0 hd1, DH_set hd1, DH_set0 hd1]
 ((repeat refine Ws ?_);refine Wr ?_)
 simp (maxSteps := 1000000) only [VL,VM,↓VG,reduceIte,reduceCtorEq,zA,zB,zC,zD,zE,zF,zG,zH,zI,zJ]
 ((repeat refine Ws ?_);refine W_block ?_; (repeat refine Ws ?_)); refine W_loopS (fun s : YaC => [(0, .ptr d 0), (3, vi m), (8, .ptr n 0), (9, .ptr (n + 1) 0), (12, vi ((nc : Int) - (cs.length : Int))), (13, .ptr H1.length 0), (14, vi s.k)]) (fun s => ⟨DH H1 d s.u [.obj [vi f, vi un, vi lo, vi hi, vi g, .so (H1.length + 1) 1 (s.ps.map intP)], .clm s.ps.length 1], lgA ++ (lx ++ [(H1.length, H1.length + 1)])⟩) (fun s => rs.length - s.k) (fun s => s.k ≤ rs.length ∧ pickS v12 s.k = (s.u, s.ps)) ⟨v12, 0, []⟩ ⟨Nat.zero_le _, rfl⟩ ⟨rfl, rfl, rfl, rfl, rfl, rfl, rfl, trivial⟩ (by simp) ?_
 rintro ⟨x, k, ps⟩ ⟨hk, hps⟩
 simp only at hk hps
 have z1 : -9223372036854775808 ≤ (k : Int) + 1 ∧ (k : Int) + 1 < 9223372036854775808 := by omega
 ((repeat refine Ws ?_);refine W_regionE T_ok ?_; intro Kn hKn)
 rcases Nat.lt_or_ge k rs.length with hlk | hgk
 ·have z2 : ((k : Int) < (rs.length : Int)) = True := eq_true (by omega)
  ((simp (maxSteps := 1000000) only [VL,VM,↓VG,reduceIte,reduceCtorEq,zA,zB,zC,zD,zE,zF,zG,zH,zI,zJ, gy, z2]); rw [hKn];clear hKn Kn;simp only [QV,reduceIte,reduceCtorEq,Nat.reduceEqDiff])
  ((repeat refine Ws ?_);refine Wt (by first|rfl|simp only [EV,zF,reduceIte]) ?_)
  (((repeat refine Ws ?_);refine W_skip ?_); simp only [QV,reduceIte,reduceCtorEq,Nat.reduceEqDiff])
  ((repeat refine Ws ?_);refine W_block ?_)
  ((repeat refine Ws ?_);refine W_regionE T_ok ?_; intro Kn hKn)
  simp (maxSteps := 1000000) only [VL,VM,↓VG,reduceIte,reduceCtorEq,zA,zB,zC,zD,zE,zF,zG,zH,zI,zJ]
  apply call_eq (f := 33) (fn := Try.f33) (by kernel_rfl) (by rfl)
  ·exact cast_c hd1 x 4 _ (by omega)
  have hst2 : pickS v12 (k + 1) = (castU x 4, if 0 < castF x 4 then ps ++ [(k : Int)] else ps) := by rw [pickS, hps]
  generalize castF x 4 = b at hst2 ⊢
  generalize castU x 4 = x2 at hst2 ⊢
  have hpl : ps.length ≤ 3 := by
   have := (pickS_bd v12 k).1
   rw [hps] at this
   simp only at this
   omega
  have q2 : ((ps.length + 1) * 8 ≤ 140737488355328) = True := eq_true (by omega)
  by_cases hb : 0 < b
  ·rw [if_pos hb] at hst2
   ((simp (maxSteps := 1000000) only [VL,VM,↓VG,reduceIte,reduceCtorEq,zA,zB,zC,zD,zE,zF,zG,zH,zI,zJ, hb]); rw [hKn];clear hKn Kn;simp only [QV,reduceIte,reduceCtorEq,Nat.reduceEqDiff])
   ((repeat refine Ws ?_);refine Wt (by first|rfl|simp only [EV,zF,reduceIte]) ?_)
   ((repeat refine Ws ?_);refine W_regionE T_ok ?_; intro Kn hKn)
   ((simp (maxSteps := 1000000) only [VL,VM,↓VG,reduceIte,reduceCtorEq,zA,zB,zC,zD,zE,zF,zG,zH,zI,zJ, DH_app hd1, DH_len, DH_len0, DH_get hd1, DH_get0 hd1, DH_set hd1, DH_set0 hd1, q2, A4]); rw [hKn];clear hKn Kn;simp only [QV,reduceIte,reduceCtorEq,Nat.reduceEqDiff])
   ((repeat refine Ws ?_);refine W_regionE T_ok ?_; intro Kn hKn)
   ((simp (maxSteps := 1000000) only [VL,VM,↓VG,reduceIte,reduceCtorEq,zA,zB,zC,zD,zE,zF,zG,zH,zI,zJ, z1]); rw [hKn];clear hKn Kn;simp only [QV,reduceIte,reduceCtorEq,Nat.reduceEqDiff])
   refine LoopK.mk ⟨x2, k + 1, ps ++ [(k : Int)]⟩ (by simp only; omega) ⟨by simp only; omega, hst2⟩ ⟨rfl, rfl, rfl, rfl, rfl, rfl, rfl, trivial⟩ (by simp)
  ·rw [if_neg hb] at hst2
   ((simp (maxSteps := 1000000) only [VL,VM,↓VG,reduceIte,reduceCtorEq,zA,zB,zC,zD,zE,zF,zG,zH,zI,zJ, hb]); rw [hKn];clear hKn Kn;simp only [QV,reduceIte,reduceCtorEq,Nat.reduceEqDiff])
   ((repeat refine Ws ?_);refine Wf (by first|rfl|simp only [EV,zF,reduceIte]) ?_)
   (((repeat refine Ws ?_);refine W_skip ?_); simp only [QV,reduceIte,reduceCtorEq,Nat.reduceEqDiff])
   ((repeat refine Ws ?_);refine W_regionE T_ok ?_; intro Kn hKn)
   ((simp (maxSteps := 1000000) only [VL,VM,↓VG,reduceIte,reduceCtorEq,zA,zB,zC,zD,zE,zF,zG,zH,zI,zJ, z1]); rw [hKn];clear hKn Kn;simp only [QV,reduceIte,reduceCtorEq,Nat.reduceEqDiff])
   refine LoopK.mk ⟨x2, k + 1, ps⟩ (by simp only; omega) ⟨by simp only; omega, hst2⟩ ⟨rfl, rfl, rfl, rfl, rfl, rfl, rfl, trivial⟩ rfl
 have z2 : ((k : Int) < (rs.length : Int)) = False := eq_false (by omega)
 obtain rfl : k = rs.length := by omega
 ((simp (maxSteps := 1000000) only [VL,VM,↓VG,reduceIte,reduceCtorEq,zA,zB,zC,zD,zE,zF,zG,zH,zI,zJ, gy, z2]); rw [hKn];clear hKn Kn;simp only [QV,reduceIte,reduceCtorEq,Nat.reduceEqDiff])
 ((repeat refine Ws ?_);refine Wf (by first|rfl|simp only [EV,zF,reduceIte]) ?_)
 (((repeat refine Ws ?_);refine W_exit ?_); simp only [QV,reduceIte,reduceCtorEq,Nat.reduceEqDiff])
 obtain ⟨cc, hcc⟩ : ∃ cc : Ct, cc = ⟨f, un, ⟨lo, hi⟩, g, ps⟩ := ⟨_, rfl⟩
 rw [hps] at hst
 simp only at hst
 rw [← hcc] at hst
 have back : DH H1 d x [.obj [vi f, vi un, vi lo, vi hi, vi g, .so (H1.length + 1) 1 (ps.map intP)], .clm ps.length 1] = DH H0 d x (.obj [.sf 0 [], .sf 0 [], vi 0] :: .obj [.so (n + 2) 3 (rs.map raP), .so (n + 3) 6 (cs.map ctP), vi sw] :: .clm rs.length 3 :: .clm cs.length 6 :: (junk ++ [.obj [vi f, vi un, vi lo, vi hi, vi g, .so (H1.length + 1) 1 (ps.map intP)], .clm ps.length 1])) := by
  rw [hH1, DH_base, List.append_assoc, ← DH_base, hL1]; rfl
 have g13 : (DH H1 d x [.obj [vi f, vi un, vi lo, vi hi, vi g, .so (H1.length + 1) 1 (ps.map intP)], .clm ps.length 1])[H1.length]? = some (VObj.obj [vi f, vi un, vi lo, vi hi, vi g, .so (H1.length + 1) 1 (ps.map intP)]) := by rw [DH_get0 hd1]; rfl
 rw [back] at g13 ⊢
 have hct : [vi f, vi un, vi lo, vi hi, vi g, .p (.sl 1 (ps.map intP))] = ctC cc := by rw [hcc]
 ((repeat refine Ws ?_);refine W_regionE T_ok ?_; intro Kn hKn)
 ((simp (maxSteps := 1000000) only [VL,VM,↓VG,reduceIte,reduceCtorEq,zA,zB,zC,zD,zE,zF,zG,zH,zI,zJ, dg, dg0, ds, ds0, dl, da, g13, q1, A3]); rw [hKn];clear hKn Kn;simp only [QV,reduceIte,reduceCtorEq,Nat.reduceEqDiff])
 ((repeat refine Ws ?_);refine W_regionE T_ok ?_; intro Kn hKn)
 ((simp (maxSteps := 1000000) only [VL,VM,↓VG,reduceIte,reduceCtorEq,zA,zB,zC,zD,zE,zF,zG,zH,zI,zJ, k3]); rw [hKn];clear hKn Kn;simp only [QV,reduceIte,reduceCtorEq,Nat.reduceEqDiff])
 refine LoopK.mk ⟨x, cs ++ [cc], junk ++ [.obj [vi f, vi un, vi lo, vi hi, vi g, .so (H1.length + 1) 1 (ps.map intP)], .clm ps.length 1], lx ++ [(H1.length, H1.length + 1)]⟩ (by simp; omega) ⟨by simp; omega, fun e he => ?_, ?_⟩ ⟨rfl, rfl, rfl, rfl, ?_, trivial⟩ ?_
 ·rcases List.mem_append.1 he with he | he
  ·exact hlx e he
  ·rw [List.mem_singleton] at he
   subst he
   show n ≤ H1.length
   omega
 ·simpa using hst
 ·simp only [List.length_append, List.length_cons, List.length_nil]
  have e9 : (nc : Int) - (cs.length : Int) - 1 = (nc : Int) - ((cs.length + 1 : Nat) : Int) := by omega
  show vi ((nc : Int) - (cs.length : Int) - 1) = vi ((nc : Int) - ((cs.length + 1 : Nat) : Int))
  rw [e9]
 ·rw [hcc]; simp
end Go.Proofs.Ythcicaelnchfdaa.Vm
