/- A part of the proofs about the chapter of the ramps; it states no condition of its own. -/
import Derived.Test.YthcicaelnchfdaaB23
import Derived.Test.YthcicaelnchfdaaB32
import Derived.Test.YthcicaelnchfdaaB34
import Derived.Test.YthcicaelnchfdaaB43
import Derived.Test.YthcicaelnchfdaaB45
import Derived.Test.YthcicaelnchfdaaB46
import Derived.Test.YthcicaelnchfdaaB52
set_option linter.unusedVariables false
set_option linter.unusedSimpArgs false
open Int renaming reduceLE → zA, reduceLT → zB, reduceToNat → zC, reduceNeg → zD
open Nat renaming reduceLT → zE, reduceEqDiff → zF, reduceAdd → zG, reduceSub → zH, reduceMul → zI, reduceLeDiff → zJ
/- Plans that are pushed about, and true times. -/
namespace Go.Proofs.Ythcicaelnchfdaa.Vm
open Go Go.Proofs
theorem fe_plv {y : Ya} (hy : YaV y) {p : List St} (h : Fe y p) : PlV y p := by
 refine ⟨h.len, fun i hi => ?_, fun i hi => ?_, h.r, h.br, fun i hi => ?_, fun i hi => ?_⟩
 all_goals
  have b := h.bd hy hi
  omega
theorem stAt_put {p : List St} {k : Nat} (hk : k < p.length) (z : St) (i : Nat) : stAt (p.set k z) i = if i = k then z else stAt p i := by
 unfold stAt
 rw [List.getD_eq_getElem?_getD, List.getD_eq_getElem?_getD, List.getElem?_set]
 by_cases h : k = i
 ·subst h
  rw [if_pos rfl, if_pos hk, if_pos rfl]; rfl
 ·rw [if_neg h, if_neg (Ne.symm h)]
theorem plv_put {y : Ya} {p : List St} (h : PlV y p) {k : Nat} (hk : k < p.length) {f : Int} (h0 : 0 ≤ f) (h1 : f ≤ 480) : PlV y (p.set k ⟨(stAt p k).ramp, f⟩) := by
 have e := stAt_put hk ⟨(stAt p k).ramp, f⟩
 refine ⟨by rw [List.length_set]; exact h.len, fun i hi => ?_, fun i hi => ?_, fun i hi => ?_, fun i hi => ?_, fun i hi => ?_, fun i hi => ?_⟩
 all_goals
  rw [List.length_set] at hi
  rw [e]
  by_cases hik : i = k
  ·subst hik
   rw [if_pos rfl]
   first | exact h.r0 i hi | exact h.r1 i hi | exact h.mem i hi | exact h.br i hi | exact h0 | exact h1
  ·rw [if_neg hik]
   first | exact h.r0 i hi | exact h.r1 i hi | exact h.mem i hi | exact h.br i hi | exact h.f0 i hi | exact h.f1 i hi
theorem holds_true {y : Ya} (hy : YaV y) {p : List St} (hp : PlV y p) : (holdsV y p).2 = 0 ∧ 1 ≤ (holdsV y p).1 ∧ (holdsV y p).1 ≤ 3 ∧ ∀ tk : List Int, (∀ i, i < y.carts.length → (ctAt y i).takes.lo ≤ tkAt tk i ∧ tkAt tk i ≤ (ctAt y i).takes.hi) → ((holdsV y p).1 = 1 → heldB y p tk = true) ∧ ((holdsV y p).1 = 2 → heldB y p tk = false) := by
 have hl := hp.len
 have he : plErr y p = 0 := plErr_ok.2 ⟨hy, hp⟩
 cases h1 : heldB y p (longest y) with
 | true =>
  have e : holdsV y p = (1, 0) := by unfold holdsV; rw [if_pos he, h1, if_pos rfl]
  rw [e]
  refine ⟨rfl, by decide, by decide, fun tk hb => ⟨fun _ => held_mono h1 fun i hi => ?_, fun h => absurd h (by decide)⟩⟩
  rw [longest_at (by omega)]
  exact (hb i (by omega)).2
 | false =>
  cases h2 : heldB y p (shortest y) with
  | true =>
   have e : holdsV y p = (3, 0) := by unfold holdsV; rw [if_pos he, h1, if_neg (by decide), h2, if_pos rfl]
   rw [e]
   exact ⟨rfl, by decide, by decide, fun tk hb => ⟨fun h => absurd h (by decide), fun h => absurd h (by decide)⟩⟩
  | false =>
   have e : holdsV y p = (2, 0) := by unfold holdsV; rw [if_pos he, h1, if_neg (by decide), h2, if_neg (by decide)]
   rw [e]
   refine ⟨rfl, by decide, by decide, fun tk hb => ⟨fun h => absurd h (by decide), fun _ => ?_⟩⟩
   cases h3 : heldB y p tk with
   | false => rfl
   | true =>
    have := held_mono h3 (tk' := shortest y) fun i hi => by rw [shortest_at' (by omega)]; exact (hb i (by omega)).1
    rw [h2] at this
    cases this
end Go.Proofs.Ythcicaelnchfdaa.Vm

/- The law of true times, on values. (Vm) -/
namespace Go.Proofs.Ythcicaelnchfdaa.Vm
open Go Go.Proofs
theorem MadeY.lens {A B m : Int} {y : Ya} (h : MadeY A B m y) (hA : A ≤ 3) (hB : B ≤ 7) : y.ramps.length ≤ 1000000 ∧ y.carts.length ≤ 1000000 ∧ ∀ c ∈ y.carts, c.ramps.length ≤ 1000000 := by
 obtain ⟨a, b, c⟩ := h.short hA hB
 exact ⟨by omega, by omega, fun x hx => by have := c x hx; omega⟩
theorem W_thenX {P : Program} {cx : Cx} {e : Env} {M : Mem} {D : List Nat} {Q : PQ} {c : Code} {σ : Type} {Kn : Env → Mem → List Nat → Prop} (E : σ → Env) (N : σ → Mem) (good : σ → Prop) (h1 : WCode P cx c e M D (fun ex e' M' D' => ex = .normal ∧ D' = D ∧ ∃ s, good s ∧ M' = N s ∧ Sub (E s) e')) (h2 : ∀ s e', good s → Sub (E s) e' → Kn e' (N s) D) : WCode P cx c e M D (thenQ Kn Q) :=
 h1.mono (by rintro ex e' M' D' ⟨rfl, rfl, s, hg, rfl, hS⟩; exact h2 s e' hg hS)
def v8 (n m : Nat) (o : Option (List St)) : VV := match o with
 | none => stsV []
 | some _ => .bf m 0 n 2
theorem st_putF {l : List St} {i : Nat} {a : Int} (h : i < l.length) : (stC l).take (i * 2 + 1) ++ vi a :: (stC l).drop (i * 2 + 2) = stC (l.set i ⟨(stAt l i).ramp, a⟩) := by
 rw [← st_put h, List.take_add_one, (stC_at h).1]; simp
structure TrA where
 u : Int
 p : List St
 b : Bool
 L : List VObj
 own : Bool
def v6 (m : Nat) (own : Bool) (p : List St) : VV := if own then .bf m 0 p.length 2 else stsV p
theorem W_frzD {P : Program} {cx : Cx} {D : List Nat} {Q : PQ} {c : Code} {own b : Bool} {H1 : List VObj} {d k : Nat} {u : Int} {p : List St} {L : List VObj} {lg : List (Nat × Nat)} (hd : d < H1.length) (hL : own = true → L = [.obj (stC p)])
  (h : ∀ L, WCode P cx c [(6, stsV p), (3, .ptr d 0), (5, .ptr k 0), (7, vb b)] ⟨DH H1 d u L, lg⟩ D Q) : WCode P cx c [(6, v6 H1.length own p), (3, .ptr d 0), (5, .ptr k 0), (7, vb b)] ⟨DH H1 d u L, lg⟩ D Q := by
 cases own with
 | false => exact h L
 | true =>
  obtain rfl := hL rfl
  refine W_frzT (t := 6) (id := H1.length) (n := p.length) (k := 2) (xs := p.map stP) (by rw [flat_sts, DH_get0 hd]; rfl) rfl (fun x hx => by obtain ⟨z, _, rfl⟩ := List.mem_map.1 hx; rfl) (by simp) ?_
  simp only [DH_set0 hd]
  exact WCode.weak (h _) (Sub.ok ⟨rfl, rfl, rfl, rfl, trivial⟩)
attribute [local irreducible] castF castU fromF fromU oneF oneU yardS slotsS onceF takesS
set_option maxHeartbeats 16000000 in
set_option maxRecDepth 100000 in
theorem true_law_v (xs : List Int) (M : Mem) (hl : xs.length ≤ maxLen) : VC Try.prog 13 [intsV xs] M (fun r M' => M' = M ∧ r = vb true) := by
 refine VC_own' T_ok (f := 13) (fn := Try.f13) (by kernel_rfl) rfl Try.ntmps13 (by rfl) (by rfl) ?_
 ((repeat refine Ws ?_);refine W_regionE T_ok ?_; intro Kn hKn)
 ((simp (maxSteps := 1000000) only [VL,VM,↓VG,reduceIte,reduceCtorEq,zA,zB,zC,zD,zE,zF,zG,zH,zI,zJ]); rw [hKn];clear hKn Kn;simp only [QV,reduceIte,reduceCtorEq,Nat.reduceEqDiff])
 ((repeat refine Ws ?_);refine Wr ?_)
 simp (maxSteps := 1000000) only [VL,VM,↓VG,reduceIte,reduceCtorEq,zA,zB,zC,zD,zE,zF,zG,zH,zI,zJ]
 apply call_eq (f := 17) (fn := Try.f17) (by kernel_rfl) (by rfl)
 ·exact dieOf_v xs _ hl
 obtain ⟨H0, hH0⟩ : ∃ H0, H0 = M.H ++ [VObj.dead] := ⟨_, rfl⟩
 obtain ⟨d, hdd⟩ : ∃ d, d = M.H.length := ⟨_, rfl⟩
 have hd : d < H0.length := by rw [hH0, hdd]; simp
 have hlen0 : H0.length = M.H.length + 1 := by rw [hH0]; simp
 have tail : ∀ u L, DH H0 d u L = M.H ++ (.obj [uv u] :: L) := fun u L => by
  rw [hH0, hdd]
  exact DH_tail M u L
 rw [← hH0, ← hdd]
 generalize dieU xs = u0
 simp (maxSteps := 1000000) only [VL,VM,↓VG,reduceIte,reduceCtorEq,zA,zB,zC,zD,zE,zF,zG,zH,zI,zJ]
 have o1 := one2 (u := u0) (a := 9) (b := 30)
 ((repeat refine Ws ?_);refine Wr ?_)
 simp (maxSteps := 1000000) only [VL,VM,↓VG,reduceIte,reduceCtorEq,zA,zB,zC,zD,zE,zF,zG,zH,zI,zJ]
 apply call_eq (f := 19) (fn := Try.f19) (by kernel_rfl) (by rfl)
 ·exact one_c hd u0 [9, 30] M.lg (by simp) (by simp)
 generalize oneF u0 [9, 30] = m1 at o1 ⊢
 generalize oneU u0 [9, 30] = u1
 simp (maxSteps := 1000000) only [VL,VM,↓VG,reduceIte,reduceCtorEq,zA,zB,zC,zD,zE,zF,zG,zH,zI,zJ]
 ((repeat refine Ws ?_);refine Wr ?_)
 simp (maxSteps := 1000000) only [VL,VM,↓VG,reduceIte,reduceCtorEq,zA,zB,zC,zD,zE,zF,zG,zH,zI,zJ]
 apply call_eq (f := 18) (fn := Try.f18) (by kernel_rfl) (by rfl)
 ·exact yardOf_d hd u1 M.lg 3 4 m1 (by omega) (by omega) (by omega)
 have md := yardS_made (u := u1) (A := 3) (B := 4) (m := m1) (by omega) (by omega) (by omega)
 generalize yardS u1 3 4 m1 = y2 at md ⊢
 obtain ⟨y, u2⟩ := y2
 simp only at md ⊢
 have hm30 : 0 ≤ m1 ∧ m1 ≤ 30 := by omega
 have hy := md.V (by omega) (by omega) (by omega)
 have lens := md.lens (by omega) (by omega)
 have hc4 := md.m1
 simp (maxSteps := 1000000) only [VL,VM,↓VG,reduceIte,reduceCtorEq,zA,zB,zC,zD,zE,zF,zG,zH,zI,zJ, DH_app hd, DH_len, DH_len0, DH_get hd, DH_get0 hd, DH_set hd, DH_set0 hd, DH_setd, DH_die hd]
 rw [DH_base]
 obtain ⟨H1, hH1⟩ : ∃ H1, H1 = H0 ++ [VObj.obj (yardC y)] := ⟨_, rfl⟩
 have hH1' : H0 ++ [VObj.obj [VV.p (.sl 3 (y.ramps.map raP)), VV.p (.sl 6 (y.carts.map ctP)), vi y.sweep]] = H1 := hH1.symm
 first | rw [← hH1] | rw [hH1'] | (simp only [← hH1])
 have hd1 : d < H1.length := by rw [hH1, List.length_append]; omega
 have hD : ∀ u L, DH H1 d u L = DH H0 d u (.obj (yardC y) :: L) := fun u L => by
  unfold DH
  rw [hH1, List.append_assoc]; rfl
 have gy : ∀ u L, (DH H1 d u L)[H0.length]? = some (.obj (yardC y)) := fun u L => by
  rw [hD, DH_get0 hd]; rfl
 ((repeat refine Ws ?_);refine Wr ?_)
 simp (maxSteps := 1000000) only [VL,VM,↓VG,reduceIte,reduceCtorEq,zA,zB,zC,zD,zE,zF,zG,zH,zI,zJ, gy]
 apply call_eq (f := 36) (fn := Try.f36) (by kernel_rfl) (by rfl)
 ·exact slotsOf_d hd1 u2 M.lg hy lens m1 (by omega)
 obtain ⟨b0, u3, p0, hsl⟩ : ∃ b u3 p, slotsS y m1 u2 y.carts.length = (b, u3, p) := ⟨_, _, _, rfl⟩
 rw [hsl]
 simp (maxSteps := 1000000) only [VL,VM,↓VG,reduceIte,reduceCtorEq,zA,zB,zC,zD,zE,zF,zG,zH,zI,zJ]
 have hso := servedR_best hy
 have hpl0 : b0 = true → PlV y p0 := fun h => by subst h; exact slots_pl hy (by omega) hsl
 have hlen1 : ∀ u L, (DH H1 d u L).length = H1.length + L.length := fun u L => DH_len
 (repeat refine Ws ?_)
 refine W_then [(3, .ptr d 0), (5, .ptr H0.length 0), (6, stsV p0), (7, vb b0), (8, v8 y.carts.length H1.length (servedR y)), (9, vb (servedR y).isSome)] ⟨DH H1 d u3 (svM (servedR y)), M.lg⟩ ?_ ?_
 ·have hsv := served_own hy ⟨DH H1 d u3 [], M.lg⟩
  simp only [hlen1, List.length_nil, Nat.add_zero] at hsv
  cases hs : servedR y with
  | none =>
   rw [hs] at hsv
   ((repeat refine Ws ?_);refine Wr ?_)
   simp (maxSteps := 1000000) only [VL,VM,↓VG,reduceIte,reduceCtorEq,zA,zB,zC,zD,zE,zF,zG,zH,zI,zJ, gy]
   apply call_eq (f := 42) (fn := Try.f42) (by kernel_rfl) (by rfl)
   ·exact hsv
   simp (maxSteps := 1000000) only [VL,VM,↓VG,reduceIte,reduceCtorEq,zA,zB,zC,zD,zE,zF,zG,zH,zI,zJ, svP, svM]
   exact ⟨rfl, rfl, rfl, rfl, rfl, rfl, trivial⟩
  | some b =>
   rw [hs] at hsv
   ((repeat refine Ws ?_);refine Wr ?_)
   simp (maxSteps := 1000000) only [VL,VM,↓VG,reduceIte,reduceCtorEq,zA,zB,zC,zD,zE,zF,zG,zH,zI,zJ, gy]
   apply call_eq (f := 42) (fn := Try.f42) (by kernel_rfl) (by rfl)
   ·exact hsv
   simp (maxSteps := 1000000) only [VL,VM,↓VG,reduceIte,reduceCtorEq,zA,zB,zC,zD,zE,zF,zG,zH,zI,zJ, svP, svM, DH_app hd1]
   exact ⟨rfl, rfl, rfl, rfl, rfl, rfl, trivial⟩
 intro _ e' hS
 refine WCode.weak (e' := _) ?_ (Sub.ok hS)
 clear hS e'
 generalize hs : servedR y = o
 have hcr := castF_range (u := u3) (n := 3) (by omega)
 (repeat refine Ws ?_)
 refine W_then [(3, .ptr d 0), (5, .ptr H0.length 0), (6, stsV p0), (7, vb b0), (8, v8 y.carts.length H1.length o), (44, vb (o.isSome && decide (0 < castF u3 3)))] ⟨DH H1 d (if o.isSome then castU u3 3 else u3) (svM o), M.lg⟩ ?_ ?_
 ·cases o with
  | none =>
   ((repeat refine Ws ?_);refine Wr ?_)
   simp (maxSteps := 1000000) only [VL,VM,↓VG,reduceIte,reduceCtorEq,zA,zB,zC,zD,zE,zF,zG,zH,zI,zJ, Option.isSome_none]
   exact ⟨rfl, rfl, rfl, rfl, rfl, rfl, trivial⟩
  | some b =>
   ((repeat refine Ws ?_);refine Wr ?_)
   simp (maxSteps := 1000000) only [VL,VM,↓VG,reduceIte,reduceCtorEq,zA,zB,zC,zD,zE,zF,zG,zH,zI,zJ, Option.isSome_some]
   apply call_eq (f := 33) (fn := Try.f33) (by kernel_rfl) (by rfl)
   ·exact cast_c hd1 u3 3 M.lg (by omega)
   simp (maxSteps := 1000000) only [VL,VM,↓VG,reduceIte,reduceCtorEq,zA,zB,zC,zD,zE,zF,zG,zH,zI,zJ, Option.isSome_some]
   exact ⟨rfl, rfl, rfl, rfl, rfl, rfl, trivial⟩
 intro _ e' hS
 refine WCode.weak (e' := _) ?_ (Sub.ok hS)
 clear hS e'
 (repeat refine Ws ?_)
 refine W_thenX (σ := TrA) (fun s => [(6, v6 H1.length s.own s.p), (3, .ptr d 0), (5, .ptr H0.length 0), (7, vb s.b)]) (fun s => ⟨DH H1 d s.u s.L, M.lg⟩) (fun s => (s.b = true → PlV y s.p) ∧ (s.own = true → s.L = [.obj (stC s.p)])) ?_ ?_
 ·cases o with
  | none =>
   simp only [Option.isSome_none, Bool.false_and]
   ((repeat refine Ws ?_);refine Wf (by first|rfl|simp only [EV,zF,reduceIte]) ?_)
   ((repeat refine Ws ?_);refine W_skip ?_)
   exact ⟨rfl, rfl, ⟨u3, p0, b0, [], false⟩, ⟨hpl0, fun h => by cases h⟩, rfl, rfl, rfl, rfl, rfl, trivial⟩
  | some b =>
   have fe := (hso).1 b hs
   have hpv := fe_plv hy fe
   have hbl := hpv.len
   have hfrom : ∀ i, i < b.length → (stAt b i).from_ ≤ 30 := fun i hi => by
    have f4 := fe.f4 i hi
    have hb := fe.bd hy hi
    have hr := md.ra _ (raAt_mem hb.1 hb.2.1)
    have := hr.s1
    omega
   simp only [Option.isSome_some, Bool.true_and, if_true, v8, svM]
   have gb : ∀ u o, (DH H1 d u [o])[H1.length]? = some o := fun u o => by rw [DH_get0 hd1]; rfl
   have gbs : ∀ u o o', (DH H1 d u [o]).set H1.length o' = DH H1 d u [o'] := fun u o o' => by rw [DH_set0 hd1]; rfl
   by_cases hc : 0 < castF u3 3
   ·rw [decide_eq_true hc]
    ((repeat refine Ws ?_);refine Wt (by first|rfl|simp only [EV,zF,reduceIte]) ?_)
    have hb480 : b.length ≤ 480 := by omega
    ((repeat refine Ws ?_);refine Wr ?_)
    simp (maxSteps := 1000000) only [VL,VM,↓VG,reduceIte,reduceCtorEq,zA,zB,zC,zD,zE,zF,zG,zH,zI,zJ]
    rcases Nat.eq_zero_or_pos b.length with h0 | h0
    ·have e0 : (0 < y.carts.length) = False := eq_false (by omega)
     have e0' : ((0 : Int) < (y.carts.length : Int)) = False := eq_false (by omega)
     ((repeat refine Ws ?_);refine Wr ?_)
     simp (maxSteps := 1000000) only [VL,VM,↓VG,reduceIte,reduceCtorEq,zA,zB,zC,zD,zE,zF,zG,zH,zI,zJ, e0, e0']
     ((repeat refine Ws ?_);refine Wf (by first|rfl|simp only [EV,zF,reduceIte]) ?_)
     ((repeat refine Ws ?_);refine W_skip ?_)
     exact ⟨rfl, rfl, ⟨castU u3 3, b, true, [.obj (stC b)], true⟩, ⟨fun _ => hpv, fun _ => rfl⟩, rfl, by rw [v6, if_pos rfl, hbl]; rfl, rfl, rfl, rfl, trivial⟩
    ·have e0 : (0 < y.carts.length) = True := eq_true (by omega)
     have e0' : ((0 : Int) < (y.carts.length : Int)) = True := eq_true (by omega)
     generalize castU u3 3 = w
     ((repeat refine Ws ?_);refine Wr ?_)
     simp (maxSteps := 1000000) only [VL,VM,↓VG,reduceIte,reduceCtorEq,zA,zB,zC,zD,zE,zF,zG,zH,zI,zJ, e0, e0']
     apply call_eq (f := 43) (fn := Try.f43) (by kernel_rfl) (by rfl)
     ·exact once_c hd1 w 2 M.lg (by omega)
     cases ho : onceF w 2 with
     | false =>
      simp (maxSteps := 1000000) only [VL,VM,↓VG,reduceIte,reduceCtorEq,zA,zB,zC,zD,zE,zF,zG,zH,zI,zJ]
      ((repeat refine Ws ?_);refine Wf (by first|rfl|simp only [EV,zF,reduceIte]) ?_)
      ((repeat refine Ws ?_);refine W_skip ?_)
      exact ⟨rfl, rfl, ⟨castU w 2, b, true, [.obj (stC b)], true⟩, ⟨fun _ => hpv, fun _ => rfl⟩, rfl, by rw [v6, if_pos rfl, hbl]; rfl, rfl, rfl, rfl, trivial⟩
     | true =>
      simp (maxSteps := 1000000) only [VL,VM,↓VG,reduceIte,reduceCtorEq,zA,zB,zC,zD,zE,zF,zG,zH,zI,zJ]
      ((repeat refine Ws ?_);refine Wt (by first|rfl|simp only [EV,zF,reduceIte]) ?_)
      generalize castU w 2 = w1
      have hk := castF_range (u := w1) (n := (y.carts.length : Int)) (by omega)
      ((repeat refine Ws ?_);refine Wr ?_)
      simp (maxSteps := 1000000) only [VL,VM,↓VG,reduceIte,reduceCtorEq,zA,zB,zC,zD,zE,zF,zG,zH,zI,zJ]
      apply call_eq (f := 33) (fn := Try.f33) (by kernel_rfl) (by rfl)
      ·exact cast_c hd1 w1 y.carts.length M.lg (by omega)
      obtain ⟨k, hk0⟩ : ∃ k : Nat, castF w1 y.carts.length = k := ⟨(castF w1 y.carts.length).toNat, by omega⟩
      rw [hk0] at hk ⊢
      generalize castU w1 y.carts.length = w2
      simp (maxSteps := 1000000) only [VL,VM,↓VG,reduceIte,reduceCtorEq,zA,zB,zC,zD,zE,zF,zG,zH,zI,zJ]
      have hkl : k < b.length := by omega
      have hkn : (k < y.carts.length) = True := eq_true (by omega)
      obtain ⟨x0, x1⟩ := stC_at hkl
      have xp := fun a => st_putF (l := b) (a := a) hkl
      have xl : (stC b).length = y.carts.length * 2 := by rw [stC_len, hbl]
      have t4 : (k * 2 + 2 ≤ y.carts.length * 2) = True := eq_true (by omega)
      have hf := fromF_range (u := w2) (lo := -3) (hi := 3) (by omega)
      have hs0 := hpv.f0 k hkl
      have hs1 := hfrom k hkl
      (repeat refine Ws ?_)
      refine W_drawP T_ok [] (by kernel_rfl) (by kernel_rfl) ?_
      generalize hi : mkPlan _ = infs
      cbv at hi
      subst hi
      simp (maxSteps := 1000000) only [VL,VM,↓VG,reduceIte,reduceCtorEq,zA,zB,zC,zD,zE,zF,zG,zH,zI,zJ, gb, x1, hkn]
      apply call_d (f := 32) (fn := Try.f32) (by kernel_rfl) (by rfl)
      ·exact from_c hd1 w2 (-3) 3 M.lg (by omega) (by omega) (by omega) (by omega)
      generalize fromF w2 (-3) 3 = f at hf ⊢
      generalize fromU w2 (-3) 3 = w3
      have hf2 : -3 ≤ f ∧ f ≤ 3 := by omega
      have t1 : -9223372036854775808 ≤ (stAt b k).from_ + f ∧ (stAt b k).from_ + f < 9223372036854775808 := by omega
      simp (maxSteps := 1000000) only [VL,VM,↓VG,reduceIte,reduceCtorEq,zA,zB,zC,zD,zE,zF,zG,zH,zI,zJ, gb, gbs, x1, hkn, t1, t4, xl, xp]
      exact ⟨⟨w3, b.set k ⟨(stAt b k).ramp, max 0 ((stAt b k).from_ + f)⟩, true, [.obj (stC (b.set k ⟨(stAt b k).ramp, max 0 ((stAt b k).from_ + f)⟩))], true⟩, ⟨fun _ => plv_put hpv hkl (by omega) (by omega), fun _ => rfl⟩, rfl, by rw [v6, if_pos rfl, List.length_set, hbl]; rfl, rfl, rfl, rfl, trivial⟩
   ·rw [decide_eq_false hc]
    ((repeat refine Ws ?_);refine Wf (by first|rfl|simp only [EV,zF,reduceIte]) ?_)
    ((repeat refine Ws ?_);refine W_skip ?_)
    exact ⟨rfl, rfl, ⟨castU u3 3, p0, b0, [.obj (stC b)], false⟩, ⟨hpl0, fun h => by cases h⟩, rfl, rfl, rfl, rfl, rfl, trivial⟩
 rintro ⟨u4, p, b, L, own⟩ e' ⟨hpl, hL⟩ hS
 simp only at hpl hL
 refine WCode.weak (e' := _) ?_ (Sub.ok hS)
 clear hS e'
 simp only
 refine W_frzD hd1 hL fun L => ?_
 cases b with
 | false =>
  ((repeat refine Ws ?_);refine W_regionE T_ok ?_; intro Kn hKn)
  ((simp (maxSteps := 1000000) only [VL,VM,↓VG,reduceIte,reduceCtorEq,zA,zB,zC,zD,zE,zF,zG,zH,zI,zJ]); rw [hKn];clear hKn Kn;simp only [QV,reduceIte,reduceCtorEq,Nat.reduceEqDiff])
  ((repeat refine Ws ?_);refine Wt (by first|rfl|simp only [EV,zF,reduceIte]) ?_)
  ((repeat refine Ws ?_);refine W_regionE T_ok ?_; intro Kn hKn)
  simp (maxSteps := 1000000) only [VL,VM,↓VG,reduceIte,reduceCtorEq,zA,zB,zC,zD,zE,zF,zG,zH,zI,zJ]
  apply call_eq (f := 16) (fn := Try.f16) (by kernel_rfl) (by rfl)
  ·exact awake_v _
  ((simp (maxSteps := 1000000) only [VL,VM,↓VG,reduceIte,reduceCtorEq,zA,zB,zC,zD,zE,zF,zG,zH,zI,zJ]); rw [hKn];clear hKn Kn;simp only [QV,reduceIte,reduceCtorEq,Nat.reduceEqDiff])
  rw [hD, tail]
  (repeat refine Ws ?_)
  refine W_ret ?_
  try simp only [thenQ, blockQ]
  refine own_ret1 rfl ?_ (by rfl)
  simp only [get_cons, frz, vtup, Nat.reduceEqDiff, if_true, if_false, reduceIte]
 | true =>
  have hpv := hpl rfl
  have hpn := hpv.len
  obtain ⟨ht2, ht0, ht3, htk⟩ := holds_true hy hpv
  have hpe : plErr y p = 0 := plErr_ok.2 ⟨hy, hpv⟩
  obtain ⟨H2, hH2⟩ : ∃ H2, H2 = H1 ++ L := ⟨_, rfl⟩
  have hd2 : d < H2.length := by rw [hH2, List.length_append]; omega
  have gy2 : ∀ u, (DH H2 d u [])[H0.length]? = some (.obj (yardC y)) := fun u => by rw [hH2, ← DH_base]; exact gy u L
  have back : ∀ u, DH H2 d u [] = M.H ++ (.obj [uv u] :: .obj (yardC y) :: L) := fun u => by rw [hH2, ← DH_base, hD, tail]
  rw [DH_base, ← hH2]
  ((repeat refine Ws ?_);refine W_regionE T_ok ?_; intro Kn hKn)
  ((simp (maxSteps := 1000000) only [VL,VM,↓VG,reduceIte,reduceCtorEq,zA,zB,zC,zD,zE,zF,zG,zH,zI,zJ]); rw [hKn];clear hKn Kn;simp only [QV,reduceIte,reduceCtorEq,Nat.reduceEqDiff])
  ((repeat refine Ws ?_);refine Wf (by first|rfl|simp only [EV,zF,reduceIte]) ?_)
  (((repeat refine Ws ?_);refine W_skip ?_); simp only [QV,reduceIte,reduceCtorEq,Nat.reduceEqDiff])
  ((repeat refine Ws ?_);refine W_regionE T_ok ?_; intro Kn hKn)
  simp (maxSteps := 1000000) only [VL,VM,↓VG,reduceIte,reduceCtorEq,zA,zB,zC,zD,zE,zF,zG,zH,zI,zJ, gy2]
  apply call_eq (f := 39) (fn := Try.f39) (by kernel_rfl) (by rfl)
  ·exact pholds_v y p _ lens.1 lens.2.1 lens.2.2 (by omega)
  rw [ht2]
  generalize (holdsV y p).1 = h at ht0 ht3 htk ⊢
  ((simp (maxSteps := 1000000) only [VL,VM,↓VG,reduceIte,reduceCtorEq,zA,zB,zC,zD,zE,zF,zG,zH,zI,zJ]); rw [hKn];clear hKn Kn;simp only [QV,reduceIte,reduceCtorEq,Nat.reduceEqDiff])
  ((repeat refine Ws ?_);refine W_regionE T_ok ?_; intro Kn hKn)
  simp (maxSteps := 1000000) only [VL,VM,↓VG,reduceIte,reduceCtorEq,zA,zB,zC,zD,zE,zF,zG,zH,zI,zJ, gy2]
  apply call_eq (f := 46) (fn := Try.f46) (by kernel_rfl) (by rfl)
  ·exact away_v y p _ lens.1 lens.2.1 lens.2.2 (by omega)
  rw [awayV, if_pos hpe]
  ((simp (maxSteps := 1000000) only [VL,VM,↓VG,reduceIte,reduceCtorEq,zA,zB,zC,zD,zE,zF,zG,zH,zI,zJ]); rw [hKn];clear hKn Kn;simp only [QV,reduceIte,reduceCtorEq,Nat.reduceEqDiff])
  have hal : (awayL y p).length = p.length := by rw [awayL_len]; omega
  have z1 : (h < 1) = False := eq_false (by omega)
  have z2 : (3 < h) = False := eq_false (by omega)
  ((repeat refine Ws ?_);refine W_regionE T_ok ?_; intro Kn hKn)
  ((simp (maxSteps := 1000000) only [VL,VM,↓VG,reduceIte,reduceCtorEq,zA,zB,zC,zD,zE,zF,zG,zH,zI,zJ, hal, z1, z2]); rw [hKn];clear hKn Kn;simp only [QV,reduceIte,reduceCtorEq,Nat.reduceEqDiff])
  ((repeat refine Ws ?_);refine Wf (by first|rfl|simp only [EV,zF,reduceIte]) ?_)
  (((repeat refine Ws ?_);refine W_skip ?_); simp only [QV,reduceIte,reduceCtorEq,Nat.reduceEqDiff])
  ((repeat refine Ws ?_);refine W_regionE T_ok ?_; intro Kn hKn)
  ((simp (maxSteps := 1000000) only [VL,VM,↓VG,reduceIte,reduceCtorEq,zA,zB,zC,zD,zE,zF,zG,zH,zI,zJ]); rw [hKn];clear hKn Kn;simp only [QV,reduceIte,reduceCtorEq,Nat.reduceEqDiff])
  ((repeat refine Ws ?_);refine W_block ?_; (repeat refine Ws ?_)); refine W_loopS (fun s : Nat × Int => [(3, .ptr d 0), (5, .ptr H0.length 0), (6, stsV p), (11, vi h), (13, spsV (awayL y p)), (15, vi s.1)]) (fun s => ⟨DH H2 d s.2 [], M.lg⟩) (fun s => 6 - s.1) (fun s => s.1 ≤ 6) (0, u4) (Nat.zero_le _) ⟨rfl, rfl, rfl, rfl, rfl, rfl, trivial⟩ rfl ?_
  rintro ⟨i, u⟩ hi
  simp only at hi
  have k1 : -9223372036854775808 ≤ (i : Int) + 1 ∧ (i : Int) + 1 < 9223372036854775808 := by omega
  simp only
  ((repeat refine Ws ?_);refine W_regionE T_ok ?_; intro Kn hKn)
  rcases Nat.lt_or_ge i 6 with hlt | hge
  rotate_left
  ·have k2 : ((i : Int) < 6) = False := eq_false (by omega)
   ((simp (maxSteps := 1000000) only [VL,VM,↓VG,reduceIte,reduceCtorEq,zA,zB,zC,zD,zE,zF,zG,zH,zI,zJ, k2]); rw [hKn];clear hKn Kn;simp only [QV,reduceIte,reduceCtorEq,Nat.reduceEqDiff])
   ((repeat refine Ws ?_);refine Wf (by first|rfl|simp only [EV,zF,reduceIte]) ?_)
   (((repeat refine Ws ?_);refine W_exit ?_); simp only [QV,reduceIte,reduceCtorEq,Nat.reduceEqDiff])
   ((repeat refine Ws ?_);refine W_regionE T_ok ?_; intro Kn hKn)
   simp (maxSteps := 1000000) only [VL,VM,↓VG,reduceIte,reduceCtorEq,zA,zB,zC,zD,zE,zF,zG,zH,zI,zJ]
   apply call_eq (f := 16) (fn := Try.f16) (by kernel_rfl) (by rfl)
   ·exact awake_v _
   ((simp (maxSteps := 1000000) only [VL,VM,↓VG,reduceIte,reduceCtorEq,zA,zB,zC,zD,zE,zF,zG,zH,zI,zJ]); rw [hKn];clear hKn Kn;simp only [QV,reduceIte,reduceCtorEq,Nat.reduceEqDiff])
   rw [back]
   (repeat refine Ws ?_)
   refine W_ret ?_
   try simp only [thenQ, blockQ]
   refine own_ret1 rfl ?_ (by rfl)
   simp only [get_cons, frz, vtup, Nat.reduceEqDiff, if_true, if_false, reduceIte]
  ·have k2 : ((i : Int) < 6) = True := eq_true (by omega)
   ((simp (maxSteps := 1000000) only [VL,VM,↓VG,reduceIte,reduceCtorEq,zA,zB,zC,zD,zE,zF,zG,zH,zI,zJ, k2]); rw [hKn];clear hKn Kn;simp only [QV,reduceIte,reduceCtorEq,Nat.reduceEqDiff])
   ((repeat refine Ws ?_);refine Wt (by first|rfl|simp only [EV,zF,reduceIte]) ?_)
   (((repeat refine Ws ?_);refine W_skip ?_); simp only [QV,reduceIte,reduceCtorEq,Nat.reduceEqDiff])
   ((repeat refine Ws ?_);refine W_block ?_)
   have tb := takes_bd (u := u) hy y.carts.length (Nat.le_refl _)
   ((repeat refine Ws ?_);refine W_regionE T_ok ?_; intro Kn hKn)
   simp (maxSteps := 1000000) only [VL,VM,↓VG,reduceIte,reduceCtorEq,zA,zB,zC,zD,zE,zF,zG,zH,zI,zJ, gy2]
   apply call_eq (f := 52) (fn := Try.f52) (by kernel_rfl) (by rfl)
   ·exact trueTakes_d hd2 u M.lg hy
   generalize takesS y u y.carts.length = tu at tb ⊢
   obtain ⟨u5, tk⟩ := tu
   simp only at tb
   obtain ⟨tl, tb⟩ := tb
   obtain ⟨f1, f2⟩ := htk tk tb
   have hbd : ∀ x ∈ tk, -1000000 ≤ x ∧ x ≤ 1000000 := fun x hx => by
    obtain ⟨j, hj, rfl⟩ := List.getElem_of_mem hx
    have hb := tb j (by omega)
    have c := hy.ct _ (ctAt_mem (y := y) (i := j) (by omega))
    have := c.l0
    have := c.h1
    have e : tkAt tk j = tk[j] := by simp [tkAt, hj]
    rw [e] at hb
    omega
   ((simp (maxSteps := 1000000) only [VL,VM,↓VG,reduceIte,reduceCtorEq,zA,zB,zC,zD,zE,zF,zG,zH,zI,zJ]); rw [hKn];clear hKn Kn;simp only [QV,reduceIte,reduceCtorEq,Nat.reduceEqDiff])
   ((repeat refine Ws ?_);refine W_regionE T_ok ?_; intro Kn hKn)
   simp (maxSteps := 1000000) only [VL,VM,↓VG,reduceIte,reduceCtorEq,zA,zB,zC,zD,zE,zF,zG,zH,zI,zJ, gy2]
   apply call_eq (f := 38) (fn := Try.f38) (by kernel_rfl) (by rfl)
   ·exact held_l y p _ hy hpv tk tl hbd
   generalize heldB y p tk = hb at f1 f2 ⊢
   ((simp (maxSteps := 1000000) only [VL,VM,↓VG,reduceIte,reduceCtorEq,zA,zB,zC,zD,zE,zF,zG,zH,zI,zJ]); rw [hKn];clear hKn Kn;simp only [QV,reduceIte,reduceCtorEq,Nat.reduceEqDiff])
   (repeat refine Ws ?_)
   refine W_then [(3, .ptr d 0), (5, .ptr H0.length 0), (6, stsV p), (11, vi h), (13, spsV (awayL y p)), (15, vi i), (16, intsV tk), (129, vb false)] ⟨DH H2 d u5 [], M.lg⟩ ?_ ?_
   ·by_cases h1 : h = 1
    ·rw [f1 h1, h1]
     ((repeat refine Ws ?_);refine Wr ?_)
     simp (maxSteps := 1000000) only [VL,VM,↓VG,reduceIte,reduceCtorEq,zA,zB,zC,zD,zE,zF,zG,zH,zI,zJ, show ((1 : Int) = 2) = False from eq_false (by decide)]
     exact ⟨rfl, rfl, rfl, rfl, rfl, rfl, rfl, rfl, trivial⟩
    ·by_cases h2 : h = 2
     ·rw [f2 h2, h2]
      ((repeat refine Ws ?_);refine Wr ?_)
      simp (maxSteps := 1000000) only [VL,VM,↓VG,reduceIte,reduceCtorEq,zA,zB,zC,zD,zE,zF,zG,zH,zI,zJ, show ((2 : Int) = 1) = False from eq_false (by decide)]
      exact ⟨rfl, rfl, rfl, rfl, rfl, rfl, rfl, rfl, trivial⟩
     ·((repeat refine Ws ?_);refine Wr ?_)
      simp (maxSteps := 1000000) only [VL,VM,↓VG,reduceIte,reduceCtorEq,zA,zB,zC,zD,zE,zF,zG,zH,zI,zJ, h1, h2]
      exact ⟨rfl, rfl, rfl, rfl, rfl, rfl, rfl, rfl, trivial⟩
   intro _ e' hS
   refine WCode.weak (e' := _) ?_ (Sub.ok hS)
   clear hS e'
   ((repeat refine Ws ?_);refine Wf (by first|rfl|simp only [EV,zF,reduceIte]) ?_)
   (((repeat refine Ws ?_);refine W_skip ?_); simp only [QV,reduceIte,reduceCtorEq,Nat.reduceEqDiff])
   ((repeat refine Ws ?_);refine W_regionE T_ok ?_; intro Kn hKn)
   ((simp (maxSteps := 1000000) only [VL,VM,↓VG,reduceIte,reduceCtorEq,zA,zB,zC,zD,zE,zF,zG,zH,zI,zJ]); rw [hKn];clear hKn Kn;simp only [QV,reduceIte,reduceCtorEq,Nat.reduceEqDiff])
   ((repeat refine Ws ?_);refine W_block ?_; (repeat refine Ws ?_)); refine W_loopS (fun j : Nat => [(3, .ptr d 0), (5, .ptr H0.length 0), (6, stsV p), (11, vi h), (13, spsV (awayL y p)), (15, vi i), (16, intsV tk), (18, vi j)]) (fun _ => ⟨DH H2 d u5 [], M.lg⟩) (fun j => p.length - j) (fun j => j ≤ p.length) 0 (Nat.zero_le _) ⟨rfl, rfl, rfl, rfl, rfl, rfl, rfl, rfl, trivial⟩ rfl ?_
   intro j hj
   have j1 : -9223372036854775808 ≤ (j : Int) + 1 ∧ (j : Int) + 1 < 9223372036854775808 := by omega
   ((repeat refine Ws ?_);refine W_regionE T_ok ?_; intro Kn hKn)
   rcases Nat.lt_or_ge j p.length with hjl | hjg
   rotate_left
   ·have j2 : ((j : Int) < (p.length : Int)) = False := eq_false (by omega)
    ((simp (maxSteps := 1000000) only [VL,VM,↓VG,reduceIte,reduceCtorEq,zA,zB,zC,zD,zE,zF,zG,zH,zI,zJ, hal, j2]); rw [hKn];clear hKn Kn;simp only [QV,reduceIte,reduceCtorEq,Nat.reduceEqDiff])
    ((repeat refine Ws ?_);refine Wf (by first|rfl|simp only [EV,zF,reduceIte]) ?_)
    (((repeat refine Ws ?_);refine W_exit ?_); simp only [QV,reduceIte,reduceCtorEq,Nat.reduceEqDiff])
    ((repeat refine Ws ?_);refine W_regionE T_ok ?_; intro Kn hKn)
    ((simp (maxSteps := 1000000) only [VL,VM,↓VG,reduceIte,reduceCtorEq,zA,zB,zC,zD,zE,zF,zG,zH,zI,zJ, k1]); rw [hKn];clear hKn Kn;simp only [QV,reduceIte,reduceCtorEq,Nat.reduceEqDiff])
    exact LoopK.mk (i + 1, u5) (by simp only; omega) (by simp only; omega) ⟨rfl, rfl, rfl, rfl, rfl, rfl, trivial⟩ rfl
   ·have j2 : ((j : Int) < (p.length : Int)) = True := eq_true (by omega)
    have a1 : (awayL y p)[j]? = some ⟨(stAt p j).from_ + (ctAt y j).takes.lo, (stAt p j).from_ + (ctAt y j).takes.hi⟩ := by
     have hz := awayL_take (y := y) (p := p) hjl (by omega)
     have hl2 : ((awayL y p).take j).length = j := by rw [List.length_take, hal]; omega
     have : ((awayL y p).take (j + 1))[j]? = (awayL y p)[j]? := by rw [List.getElem?_take, if_pos (by omega)]
     rw [← this, hz, List.getElem?_append_right (by omega), hl2, Nat.sub_self]; rfl
    have a2 := map_at (f := stP) (stAt_get hjl)
    have a3 := map_at (f := intP) (tkAt_get (show j < tk.length by omega))
    have a1' := map_at (f := spP) a1
    obtain ⟨b1, b2⟩ := tb j (by omega)
    have f0 := hpv.f0 j hjl
    have f1' := hpv.f1 j hjl
    have c := hy.ct _ (ctAt_mem (y := y) (i := j) (by omega))
    have c1 := c.l0
    have c2 := c.h1
    ((simp (maxSteps := 1000000) only [VL,VM,↓VG,reduceIte,reduceCtorEq,zA,zB,zC,zD,zE,zF,zG,zH,zI,zJ, hal, j2]); rw [hKn];clear hKn Kn;simp only [QV,reduceIte,reduceCtorEq,Nat.reduceEqDiff])
    ((repeat refine Ws ?_);refine Wt (by first|rfl|simp only [EV,zF,reduceIte]) ?_)
    (((repeat refine Ws ?_);refine W_skip ?_); simp only [QV,reduceIte,reduceCtorEq,Nat.reduceEqDiff])
    ((repeat refine Ws ?_);refine W_block ?_)
    ·skip
     (repeat refine Ws ?_)
     refine W_drawE T_ok [] (by kernel_rfl) (by kernel_rfl) ?_
     intro Kn hKn
     generalize hi : mkPlan _ = infs
     cbv at hi
     subst hi
     have t1 : -9223372036854775808 ≤ (stAt p j).from_ + tkAt tk j ∧ (stAt p j).from_ + tkAt tk j < 9223372036854775808 := by omega
     simp (maxSteps := 1000000) only [VL,VM,↓VG,reduceIte,reduceCtorEq,zA,zB,zC,zD,zE,zF,zG,zH,zI,zJ, a1', a2, a3, t1]
     apply call_d (f := 53) (fn := Try.f53) (by kernel_rfl) (by rfl)
     ·exact kholds_v ⟨(stAt p j).from_ + (ctAt y j).takes.lo, (stAt p j).from_ + (ctAt y j).takes.hi⟩ ((stAt p j).from_ + tkAt tk j) _
     have e1 : decide ((stAt p j).from_ + (ctAt y j).takes.lo ≤ (stAt p j).from_ + tkAt tk j) = true := decide_eq_true (by omega)
     have e2 : decide ((stAt p j).from_ + tkAt tk j ≤ (stAt p j).from_ + (ctAt y j).takes.hi) = true := decide_eq_true (by omega)
     rw [e1, e2]
     ((simp (maxSteps := 1000000) only [VL,VM,↓VG,reduceIte,reduceCtorEq,zA,zB,zC,zD,zE,zF,zG,zH,zI,zJ, a1', a2, a3, t1]); rw [hKn];clear hKn Kn;simp only [QV,reduceIte,reduceCtorEq,Nat.reduceEqDiff])
     ((repeat refine Ws ?_);refine Wf (by first|rfl|simp only [EV,zF,reduceIte]) ?_)
     (((repeat refine Ws ?_);refine W_skip ?_); simp only [QV,reduceIte,reduceCtorEq,Nat.reduceEqDiff])
     ((repeat refine Ws ?_);refine W_regionE T_ok ?_; intro Kn hKn)
     ((simp (maxSteps := 1000000) only [VL,VM,↓VG,reduceIte,reduceCtorEq,zA,zB,zC,zD,zE,zF,zG,zH,zI,zJ, j1]); rw [hKn];clear hKn Kn;simp only [QV,reduceIte,reduceCtorEq,Nat.reduceEqDiff])
     exact LoopK.mk (j + 1) (by omega) (by omega) ⟨rfl, rfl, rfl, rfl, rfl, rfl, rfl, rfl, trivial⟩ rfl
end Go.Proofs.Ythcicaelnchfdaa.Vm
