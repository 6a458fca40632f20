/- A part of the proofs about the chapter of the ramps; it states no condition of its own. -/
import Derived.Test.YthcicaelnchfdaaB35
import Derived.Test.YthcicaelnchfdaaB37
import Derived.Test.YthcicaelnchfdaaB48
import Derived.Test.YthcicaelnchfdaaB49
set_option linter.unusedVariables false
set_option linter.unusedSimpArgs false
open Int renaming reduceLE → zA, reduceLT → zB, reduceToNat → zC, reduceNeg → zD
open Nat renaming reduceLT → zE, reduceEqDiff → zF, reduceAdd → zG, reduceSub → zH, reduceMul → zI, reduceLeDiff → zJ
/- The law of what is easier, on values. (Vm) -/
namespace Go.Proofs.Ythcicaelnchfdaa.Vm
open Go Go.Proofs
theorem W_thenZ {P : Program} {cx : Cx} {e : Env} {M : Mem} {D : List Nat} {Q : PQ} {c : Code} {σ : Type} {Kn : Env → Mem → List Nat → Prop} (E : σ → Env) (N : σ → Mem) (good : σ → Prop) (h1 : WCode P cx c e M D (fun ex e' M' D' => ex = .normal ∧ D' = D ∧ ∃ s, good s ∧ M' = N s ∧ Sub (E s) e')) (h2 : ∀ s e', good s → Sub (E s) e' → Kn e' (N s) D) : WCode P cx c e M D (thenQ Kn Q) :=
 h1.mono (by rintro ex e' M' D' ⟨rfl, rfl, s, hg, rfl, hS⟩; exact h2 s e' hg hS)
theorem raF_put3 : ∀ (l : List Ra) (i : Nat) (r : Ra) (a b c : Int), l[i]? = some r → ((((raF l).take (i * 3) ++ vi a :: (raF l).drop (i * 3 + 1)).take (i * 3 + 1) ++ vi b :: ((raF l).take (i * 3) ++ vi a :: (raF l).drop (i * 3 + 1)).drop (i * 3 + 2)).take (i * 3 + 2) ++ vi c :: (((raF l).take (i * 3) ++ vi a :: (raF l).drop (i * 3 + 1)).take (i * 3 + 1) ++ vi b :: ((raF l).take (i * 3) ++ vi a :: (raF l).drop (i * 3 + 1)).drop (i * 3 + 2)).drop (i * 3 + 3)) = raF (l.set i ⟨a, b, c⟩)
 | [], i, r, a, b, c, h => by simp at h
 | x :: l, 0, r, a, b, c, h => by
  simp only [List.getElem?_cons_zero, Option.some.injEq] at h
  subst h
  simp [raF_cons]
 | x :: l, i + 1, r, a, b, c, h => by
  rw [List.getElem?_cons_succ] at h
  have ih := raF_put3 l i r a b c h
  have e : ∀ k, (i + 1) * 3 + k = i * 3 + k + 1 + 1 + 1 := fun k => by omega
  have e0 : (i + 1) * 3 = i * 3 + 1 + 1 + 1 := by omega
  rw [List.set_cons_succ, raF_cons, raF_cons, e 1, e 2, e 3, e0]
  simp only [List.take_succ_cons, List.drop_succ_cons, List.cons_append]
  rw [ih]
theorem ctF_put3 : ∀ (l : List Ct) (i : Nat) (r : Ct) (a b c : Int), l[i]? = some r → ((((ctF l).take (i * 6) ++ vi a :: (ctF l).drop (i * 6 + 1)).take (i * 6 + 1) ++ vi b :: ((ctF l).take (i * 6) ++ vi a :: (ctF l).drop (i * 6 + 1)).drop (i * 6 + 2)).take (i * 6 + 4) ++ vi c :: (((ctF l).take (i * 6) ++ vi a :: (ctF l).drop (i * 6 + 1)).take (i * 6 + 1) ++ vi b :: ((ctF l).take (i * 6) ++ vi a :: (ctF l).drop (i * 6 + 1)).drop (i * 6 + 2)).drop (i * 6 + 5)) = ctF (l.set i { r with from_ := a, until_ := b, grams := c })
 | [], i, r, a, b, c, h => by simp at h
 | x :: l, 0, r, a, b, c, h => by
  simp only [List.getElem?_cons_zero, Option.some.injEq] at h
  subst h
  simp [ctF_cons]
 | x :: l, i + 1, r, a, b, c, h => by
  rw [List.getElem?_cons_succ] at h
  have ih := ctF_put3 l i r a b c h
  have e : ∀ k, (i + 1) * 6 + k = i * 6 + k + 1 + 1 + 1 + 1 + 1 + 1 := fun k => by omega
  have e0 : (i + 1) * 6 = i * 6 + 1 + 1 + 1 + 1 + 1 + 1 := by omega
  rw [List.set_cons_succ, ctF_cons, ctF_cons, e 1, e 2, e 4, e 5, e0]
  simp only [List.take_succ_cons, List.drop_succ_cons, List.cons_append]
  rw [ih]
theorem ctF_putS : ∀ (l : List Ct) (i : Nat) (r : Ct) (a b : Int), l[i]? = some r → ((ctF l).take (i * 6 + 2) ++ vi a :: vi b :: (ctF l).drop (i * 6 + 4)) = ctF (l.set i { r with takes := ⟨a, b⟩ })
 | [], i, r, a, b, h => by simp at h
 | x :: l, 0, r, a, b, h => by
  simp only [List.getElem?_cons_zero, Option.some.injEq] at h
  subst h
  simp [ctF_cons]
 | x :: l, i + 1, r, a, b, h => by
  rw [List.getElem?_cons_succ] at h
  have ih := ctF_putS l i r a b h
  have e : ∀ k, (i + 1) * 6 + k = i * 6 + k + 1 + 1 + 1 + 1 + 1 + 1 := fun k => by omega
  rw [List.set_cons_succ, ctF_cons, ctF_cons, e 2, e 4]
  simp only [List.take_succ_cons, List.drop_succ_cons, List.cons_append]
  rw [ih]
structure EasR (r r' : Ra) : Prop where
 o0 : 0 ≤ r'.open_
 o1 : r'.open_ ≤ r.open_
 s0 : r.shut ≤ r'.shut
 s1 : r'.shut ≤ r.shut + 3
 b0 : r.bears ≤ r'.bears
 b1 : r'.bears ≤ r.bears + 29
structure EasC (c c' : Ct) : Prop where
 f0 : 0 ≤ c'.from_
 f1 : c'.from_ ≤ c.from_
 u0 : c.until_ ≤ c'.until_
 u1 : c'.until_ ≤ c.until_ + 3
 g0 : 0 ≤ c'.grams
 g1 : c'.grams ≤ c.grams
 l0 : 1 ≤ c'.takes.lo
 l1 : c'.takes.lo ≤ c.takes.lo
 h0 : c.takes.lo ≤ c'.takes.hi
 h1 : c'.takes.hi ≤ c.takes.hi
 r : c'.ramps = c.ramps
def EasTo {α : Type} (R : α → α → Prop) (l l' : List α) (i : Nat) : Prop := l'.length = l.length ∧ ∀ (j : Nat) (x x' : α), l[j]? = some x → l'[j]? = some x' → (j < i → R x x') ∧ (i ≤ j → x' = x)
theorem EasTo.zero {α : Type} {R : α → α → Prop} (l : List α) : EasTo R l l 0 := ⟨rfl, fun j x x' h h' => ⟨fun h0 => by omega, fun _ => by rw [h] at h'; exact (Option.some.inj h').symm⟩⟩
theorem EasTo.at {α : Type} {R : α → α → Prop} {l l' : List α} {i : Nat} (h : EasTo R l l' i) {x : α} (hx : l[i]? = some x) : l'[i]? = some x := by
 have hi := (List.getElem?_eq_some_iff.1 hx).1
 have hi' : i < l'.length := by rw [h.1]; exact hi
 have e := List.getElem?_eq_getElem hi'
 rw [e, (h.2 i x _ hx e).2 (Nat.le_refl _)]
theorem EasTo.step {α : Type} {R : α → α → Prop} {l l' : List α} {i : Nat} (h : EasTo R l l' i) {x z : α} (hx : l[i]? = some x) (hz : R x z) : EasTo R l (l'.set i z) (i + 1) := by
 have hi := (List.getElem?_eq_some_iff.1 hx).1
 refine ⟨by rw [List.length_set]; exact h.1, fun j a a' ha ha' => ?_⟩
 rw [List.getElem?_set] at ha'
 by_cases hij : i = j
 ·subst hij
  rw [if_pos rfl, if_pos (by rw [h.1]; exact hi)] at ha'
  cases ha'
  rw [hx] at ha
  cases ha
  exact ⟨fun _ => hz, fun q => by omega⟩
 ·rw [if_neg hij] at ha'
  have := h.2 j a a' ha ha'
  exact ⟨fun q => this.1 (by omega), fun q => this.2 (by omega)⟩
theorem EasTo.all {α : Type} {R : α → α → Prop} {l l' : List α} (h : EasTo R l l' l.length) : ∀ (j : Nat) (x x' : α), l[j]? = some x → l'[j]? = some x' → R x x' := fun j x x' hx hx' => (h.2 j x x' hx hx').1 (List.getElem?_eq_some_iff.1 hx).1
theorem eas_yard {y : Ya} {rs : List Ra} {cs : List Ct} {sw : Int} (hr : EasTo EasR y.ramps rs y.ramps.length) (hc : EasTo EasC y.carts cs y.carts.length) (hs : sw ≤ y.sweep) : Eas y ⟨rs, cs, sw⟩ := by
 have ra : ∀ r : Int, (r.toNat < y.ramps.length ∧ EasR (raAt y r) (raAt ⟨rs, cs, sw⟩ r)) ∨ (raAt y r = Ra0 ∧ raAt ⟨rs, cs, sw⟩ r = Ra0) := fun r => by
  rcases Nat.lt_or_ge r.toNat y.ramps.length with h | h
  ·refine .inl ⟨h, EasTo.all hr r.toNat _ _ ?_ ?_⟩
   ·simp [raAt, h]
   ·have : r.toNat < rs.length := by rw [hr.1]; exact h
    simp [raAt, this]
  ·right
   have h2 : rs.length ≤ r.toNat := by rw [hr.1]; exact h
   constructor
   ·unfold raAt; rw [List.getD_eq_getElem?_getD, List.getElem?_eq_none h]; rfl
   ·unfold raAt; rw [List.getD_eq_getElem?_getD, List.getElem?_eq_none h2]; rfl
 have ct : ∀ i, EasC (ctAt y i) (ctAt ⟨rs, cs, sw⟩ i) ∨ (ctAt y i = Ct0 ∧ ctAt ⟨rs, cs, sw⟩ i = Ct0) := fun i => by
  rcases Nat.lt_or_ge i y.carts.length with h | h
  ·refine .inl (EasTo.all hc i _ _ ?_ ?_)
   ·simp [ctAt, h]
   ·have : i < cs.length := by rw [hc.1]; exact h
    simp [ctAt, this]
  ·right
   have h2 : cs.length ≤ i := by rw [hc.1]; exact h
   constructor
   ·unfold ctAt; rw [List.getD_eq_getElem?_getD, List.getElem?_eq_none h]; rfl
   ·unfold ctAt; rw [List.getD_eq_getElem?_getD, List.getElem?_eq_none h2]; rfl
 refine ⟨hr.1, hc.1, hs, fun r => ?_, fun r => ?_, fun r => ?_, fun i => ?_, fun i => ?_, fun i => ?_, fun i => ?_, fun i => ?_⟩
 ·rcases ra r with ⟨_, h⟩ | ⟨h1, h2⟩
  ·exact h.o1
  ·rw [h1, h2]; exact Int.le_refl _
 ·rcases ra r with ⟨_, h⟩ | ⟨h1, h2⟩
  ·exact h.s0
  ·rw [h1, h2]; exact Int.le_refl _
 ·rcases ra r with ⟨_, h⟩ | ⟨h1, h2⟩
  ·exact h.b0
  ·rw [h1, h2]; exact Int.le_refl _
 ·rcases ct i with h | ⟨h1, h2⟩
  ·exact h.f1
  ·rw [h1, h2]; exact Int.le_refl _
 ·rcases ct i with h | ⟨h1, h2⟩
  ·exact h.u0
  ·rw [h1, h2]; exact Int.le_refl _
 ·rcases ct i with h | ⟨h1, h2⟩
  ·exact h.g1
  ·rw [h1, h2]; exact Int.le_refl _
 ·rcases ct i with h | ⟨h1, h2⟩
  ·exact h.h1
  ·rw [h1, h2]; exact Int.le_refl _
 ·rcases ct i with h | ⟨h1, h2⟩
  ·exact h.r
  ·rw [h1, h2]
theorem eas_valid {m : Int} {y : Ya} (md : MadeY 2 5 m y) (hm : m ≤ 30) {rs : List Ra} {cs : List Ct} {sw : Int} (hr : EasTo EasR y.ramps rs y.ramps.length) (hc : EasTo EasC y.carts cs y.carts.length) (hs0 : 0 ≤ sw) (hs : sw ≤ y.sweep) : YaV ⟨rs, cs, sw⟩ := by
 have h1 := md.n0
 have h2 := md.n1
 have h3 := md.m1
 have h5 := md.s1
 have l1 := hr.1
 have l2 := hc.1
 refine ⟨by simp only; omega, by simp only; omega, fun r hrm => ?_, by simp only; omega, fun c hcm => ?_, hs0, by simp only; omega⟩
 ·obtain ⟨j, hj, rfl⟩ := List.getElem_of_mem hrm
  have hj' : j < y.ramps.length := by rw [← l1]; exact hj
  have e := EasTo.all hr j _ _ (List.getElem?_eq_getElem hj') (List.getElem?_eq_getElem hj)
  have k := md.ra _ (List.getElem_mem hj')
  have := e.o0
  have := e.o1
  have := e.s0
  have := e.s1
  have := e.b0
  have := e.b1
  have := k.os
  have := k.s1
  have := k.b0
  have := k.b1
  refine ⟨?_, ?_, ?_, ?_, ?_⟩ <;> omega
 ·obtain ⟨j, hj, rfl⟩ := List.getElem_of_mem hcm
  have hj' : j < y.carts.length := by rw [← l2]; exact hj
  have e := EasTo.all hc j _ _ (List.getElem?_eq_getElem hj') (List.getElem?_eq_getElem hj)
  have k := md.ct _ (List.getElem_mem hj')
  have := e.f0
  have := e.f1
  have := e.u0
  have := e.u1
  have := e.g0
  have := e.g1
  have := e.l0
  have := e.l1
  have := e.h0
  have := e.h1
  have := k.fu
  have := k.u1
  have := k.h1
  have := k.g1
  have er := e.r
  refine ⟨?_, ?_, ?_, ?_, ?_, ?_, ?_, ?_, ?_, ?_⟩
  ·omega
  ·omega
  ·omega
  ·omega
  ·omega
  ·omega
  ·omega
  ·omega
  ·rw [er]
   intro x hx
   have := k.r x hx
   simp only
   omega
  ·rw [er]; exact k.asc
attribute [local irreducible] castF castU fromF fromU oneF oneU yardS
set_option maxHeartbeats 16000000 in
set_option maxRecDepth 100000 in
theorem easier_law_v (xs : List Int) (M : Mem) (hl : xs.length ≤ maxLen) : VC Try.prog 7 [intsV xs] M (fun r M' => M' = M ∧ r = vb true) := by
 refine VC_own' T_ok (f := 7) (fn := Try.f7) (by kernel_rfl) rfl Try.ntmps7 (by rfl) (by rfl) ?_
 ((repeat refine Ws ?_);refine W_regionE T_ok ?_; intro Kn hKn)
 ((simp (maxSteps := 1000000) only [VL,VM,↓VG,reduceIte,reduceCtorEq,zA,zB,zC,zD,zE,zF,zG,zH,zI,zJ]); rw [hKn];clear hKn Kn;simp only [QV,reduceIte,reduceCtorEq,Nat.reduceEqDiff])
 ((repeat refine Ws ?_);refine Wr ?_)
 simp (maxSteps := 1000000) only [VL,VM,↓VG,reduceIte,reduceCtorEq,zA,zB,zC,zD,zE,zF,zG,zH,zI,zJ]
 apply call_eq (f := 17) (fn := Try.f17) (by kernel_rfl) (by rfl)
 ·exact dieOf_v xs _ hl
 obtain ⟨H0, hH0⟩ : ∃ H0, H0 = M.H ++ [VObj.dead] := ⟨_, rfl⟩
 obtain ⟨d, hdd⟩ : ∃ d, d = M.H.length := ⟨_, rfl⟩
 have hd : d < H0.length := by rw [hH0, hdd]; simp
 have hlen0 : H0.length = M.H.length + 1 := by rw [hH0]; simp
 have tail : ∀ u L, DH H0 d u L = M.H ++ (.obj [uv u] :: L) := fun u L => by
  rw [hH0, hdd]
  exact DH_tail M u L
 rw [← hH0, ← hdd]
 generalize dieU xs = u0
 simp (maxSteps := 1000000) only [VL,VM,↓VG,reduceIte,reduceCtorEq,zA,zB,zC,zD,zE,zF,zG,zH,zI,zJ]
 have o1 := one2 (u := u0) (a := 9) (b := 30)
 ((repeat refine Ws ?_);refine Wr ?_)
 simp (maxSteps := 1000000) only [VL,VM,↓VG,reduceIte,reduceCtorEq,zA,zB,zC,zD,zE,zF,zG,zH,zI,zJ]
 apply call_eq (f := 19) (fn := Try.f19) (by kernel_rfl) (by rfl)
 ·exact one_c hd u0 [9, 30] M.lg (by simp) (by simp)
 generalize oneF u0 [9, 30] = m1 at o1 ⊢
 generalize oneU u0 [9, 30] = u1
 simp (maxSteps := 1000000) only [VL,VM,↓VG,reduceIte,reduceCtorEq,zA,zB,zC,zD,zE,zF,zG,zH,zI,zJ]
 apply call_eq (f := 18) (fn := Try.f18) (by kernel_rfl) (by rfl)
 ·exact yardOf_d hd u1 M.lg 2 5 m1 (by omega) (by omega) (by omega)
 have md := yardS_made (u := u1) (A := 2) (B := 5) (m := m1) (by omega) (by omega) (by omega)
 generalize yardS u1 2 5 m1 = y2 at md ⊢
 obtain ⟨y, u2⟩ := y2
 simp only at md ⊢
 have hm30 : m1 ≤ 30 := by omega
 have hy := md.V (by omega) (by omega) (by omega)
 have lens := md.len (by omega) (by omega)
 simp (maxSteps := 1000000) only [VL,VM,↓VG,reduceIte,reduceCtorEq,zA,zB,zC,zD,zE,zF,zG,zH,zI,zJ, DH_app hd, DH_len, DH_len0, DH_get hd, DH_get0 hd, DH_set hd, DH_set0 hd, DH_setd, DH_die hd]
 ((repeat refine Ws ?_);refine Wr ?_)
 simp (maxSteps := 1000000) only [VL,VM,↓VG,reduceIte,reduceCtorEq,zA,zB,zC,zD,zE,zF,zG,zH,zI,zJ, DH_app hd, DH_len, DH_len0, DH_get hd, DH_get0 hd, DH_set hd, DH_set0 hd, DH_setd, DH_die hd]
 refine fn_call (f := 20) (fn := Try.f20) (by kernel_rfl) (by rfl) ?_
 refine (copyYard_own y _ lens.1 lens.2.1 lens.2.2).mono ?_
 rintro _ _ ⟨J, q, X, o1', o2', rfl, hX, rfl, hJq⟩
 have hH1 : ∀ L, (DH H0 d u2 L).length = H0.length + L.length := fun L => DH_len
 obtain ⟨L1, hL1⟩ : ∃ L1, L1 = VObj.obj (yardC y) :: .obj o1' :: .obj o2' :: .obj (raF y.ramps) :: J := ⟨_, rfl⟩
 obtain ⟨G, hG⟩ : ∃ G, G = H0 ++ L1 := ⟨_, rfl⟩
 have hGl : G.length = H0.length + (J.length + 4) := by rw [hG, hL1]; simp
 obtain ⟨rid, hrid⟩ : ∃ rid, rid = H0.length + 3 := ⟨_, rfl⟩
 obtain ⟨cid, hcid⟩ : ∃ cid, cid = H0.length + (1 + (3 + q)) := ⟨_, rfl⟩
 have hr : rid < G.length := by omega
 have hdr : d ≠ rid := by omega
 have hdl : d < G.length := by omega
 have hc : y.carts.length ≠ 0 → cid < G.length ∧ cid ≠ rid ∧ d ≠ cid := fun h => by
  have := (List.getElem?_eq_some_iff.1 (hJq h)).1
  omega
 have hself : GX G rid cid y.carts.length (raF y.ramps) (ctF y.carts) = G := GX_self (by rw [hG, hrid, hget, hL1]; rfl) fun h => by
  rw [hG, hcid, hget, hL1, show 1 + (3 + q) = q + 1 + 1 + 1 + 1 by omega]
  simp only [List.getElem?_cons_succ]
  exact hJq h
 have hX2 : ∀ e ∈ X, H0.length ≤ e.1 := fun e he => by
  have := hX e he
  simp only [hH1] at this
  omega
 have hcell := cvP_cell y.carts.length (H0.length + (1 + (3 + q)))
 simp (maxSteps := 1000000) only [VL,VM,↓VG,reduceIte,reduceCtorEq,zA,zB,zC,zD,zE,zF,zG,zH,zI,zJ, DH_app hd, DH_len, DH_len0, DH_get hd, DH_get0 hd, DH_set hd, DH_set0 hd, DH_setd, DH_die hd, hcell]
 rw [← hrid, ← hcid]
 obtain ⟨Y2, hY2, g2⟩ := addLg_Y (H0.length + (J.length + 4)) (rid :: refs (cvP y.carts.length cid)) (M.lg ++ X)
 rw [hY2, List.append_assoc]
 have hXY : ∀ e ∈ X ++ Y2, M.H.length ≤ e.1 := fun e he => by
  rcases List.mem_append.1 he with he | he
  ·have := hX2 e he; omega
  ·have := (g2 e he).1; omega
 generalize X ++ Y2 = XY at hXY ⊢
 have hmem : ∀ B, DH H0 d u2 (VObj.obj (yardC y) :: .obj o1' :: .obj o2' :: .obj (raF y.ramps) :: (J ++ [.obj B])) = DH (GX G rid cid y.carts.length (raF y.ramps) (ctF y.carts)) d u2 [.obj B] := fun B => by
  rw [hself, hG, hL1]
  unfold DH
  congr 1
  simp
 rw [hmem, ← hGl]
 have hGd : ∀ R C, d < (GX G rid cid y.carts.length R C).length := fun R C => by rw [GX_len]; exact hdl
 have gx : ∀ u R C L, (DH (GX G rid cid y.carts.length R C) d u L)[G.length]? = L[0]? := fun u R C L => by
  have := DH_get0 (hGd R C) (u := u) (L := L)
  rwa [GX_len] at this
 have gxs : ∀ u R C o o', (DH (GX G rid cid y.carts.length R C) d u [o]).set G.length o' = DH (GX G rid cid y.carts.length R C) d u [o'] := fun u R C o o' => by
  have := DH_set0 (hGd R C) (u := u) (L := [o]) o'
  rwa [GX_len] at this
 have gr : ∀ u R C L, (DH (GX G rid cid y.carts.length R C) d u L)[rid]? = some (.obj R) := fun u R C L => GX_r hr hc hdr u R C L
 have grs : ∀ u R C L R', (DH (GX G rid cid y.carts.length R C) d u L).set rid (.obj R') = DH (GX G rid cid y.carts.length R' C) d u L := fun u R C L R' => GX_rs hr hc hdr u R C L R'
 have hyb : G[H0.length]? = some (.obj (yardC y)) := by rw [hG, hget0, hL1]; rfl
 have gy : ∀ u R C L, (DH (GX G rid cid y.carts.length R C) d u L)[H0.length]? = some (.obj (yardC y)) := fun u R C L => by
  rw [GX_o u _ _ _ (by omega) (fun h => by omega) (by omega) (by omega)]
  exact hyb
 have pre : ∀ i, i < M.H.length → G[i]? = M.H[i]? := fun i hi => by
  rw [hG, hH0, List.append_assoc, List.getElem?_append_left hi]
 have sw0 := md.s0
 have sw1 := md.s1
 have hs0 := fromF_range (u := u2) (lo := 0) (hi := y.sweep) (by omega)
 ((repeat refine Ws ?_);refine Wr ?_)
 simp (maxSteps := 1000000) only [VL,VM,↓VG,reduceIte,reduceCtorEq,zA,zB,zC,zD,zE,zF,zG,zH,zI,zJ, gx, gy]
 apply call_eq (f := 32) (fn := Try.f32) (by kernel_rfl) (by rfl)
 ·exact from_c (hGd _ _) u2 0 y.sweep _ (by omega) (by omega) (by omega) (by omega)
 generalize fromF u2 0 y.sweep = sw at hs0 ⊢
 generalize fromU u2 0 y.sweep = u3
 have hsw : 0 ≤ sw ∧ sw ≤ y.sweep := by omega
 clear hs0
 simp (maxSteps := 1000000) only [VL,VM,↓VG,reduceIte,reduceCtorEq,zA,zB,zC,zD,zE,zF,zG,zH,zI,zJ, gx, gy, gxs]
 ((repeat refine Ws ?_);refine Wr ?_)
 simp (maxSteps := 1000000) only [VL,VM,↓VG,reduceIte,reduceCtorEq,zA,zB,zC,zD,zE,zF,zG,zH,zI,zJ]
 ((repeat refine Ws ?_);refine W_block ?_; (repeat refine Ws ?_)); refine W_loopS (fun s : Nat × Int × List Ra => [(3, .ptr d 0), (4, .ptr H0.length 0), (5, .ptr G.length 0), (6, vi s.1)]) (fun s => ⟨DH (GX G rid cid y.carts.length (raF s.2.2) (ctF y.carts)) d s.2.1 [.obj [.bf rid 0 y.ramps.length 3, cvP y.carts.length cid, vi sw]], M.lg ++ XY⟩) (fun s => y.ramps.length - s.1) (fun s => s.1 ≤ y.ramps.length ∧ EasTo EasR y.ramps s.2.2 s.1) (0, u3, y.ramps) ⟨Nat.zero_le _, EasTo.zero _⟩ ⟨rfl, rfl, rfl, rfl, trivial⟩ rfl ?_
 rintro ⟨i, v, rs⟩ ⟨hi, he⟩
 simp only at hi he
 have k1 : -9223372036854775808 ≤ (i : Int) + 1 ∧ (i : Int) + 1 < 9223372036854775808 := by omega
 simp only
 ((repeat refine Ws ?_);refine W_regionE T_ok ?_; intro Kn hKn)
 rcases Nat.lt_or_ge i y.ramps.length with hlt | hge
 ·have k2 : ((i : Int) < (y.ramps.length : Int)) = True := eq_true (by omega)
  have hx : y.ramps[i]? = some y.ramps[i] := List.getElem?_eq_getElem hlt
  have hrm := md.ra _ (List.getElem_mem hlt)
  generalize y.ramps[i] = r at hx hrm
  have v1 := hrm.o0
  have v2 := hrm.os
  have v3 := hrm.s1
  have v4 := hrm.b0
  have v5 := hrm.b1
  have hma := he.at hx
  have hml := he.1
  obtain ⟨x0, x1, x2⟩ := raF_at rs i r hma
  have xl : (raF rs).length = y.ramps.length * 3 := by rw [raF_len, hml]
  ((simp (maxSteps := 1000000) only [VL,VM,↓VG,reduceIte,reduceCtorEq,zA,zB,zC,zD,zE,zF,zG,zH,zI,zJ, gx, k2]); rw [hKn];clear hKn Kn;simp only [QV,reduceIte,reduceCtorEq,Nat.reduceEqDiff])
  ((repeat refine Ws ?_);refine Wt (by first|rfl|simp only [EV,zF,reduceIte]) ?_)
  (((repeat refine Ws ?_);refine W_skip ?_); simp only [QV,reduceIte,reduceCtorEq,Nat.reduceEqDiff])
  ((repeat refine Ws ?_);refine W_block ?_)
  ·have t3 : (i < y.ramps.length) = True := eq_true hlt
   ((repeat refine Ws ?_);refine W_regionE T_ok ?_; intro Kn hKn)
   ((simp (maxSteps := 1000000) only [VL,VM,↓VG,reduceIte,reduceCtorEq,zA,zB,zC,zD,zE,zF,zG,zH,zI,zJ, gx, t3]); rw [hKn];clear hKn Kn;simp only [QV,reduceIte,reduceCtorEq,Nat.reduceEqDiff])
   (repeat refine Ws ?_)
   refine W_drawE T_ok [] (by kernel_rfl) (by kernel_rfl) ?_
   intro Kn hKn
   generalize hi : mkPlan _ = infs
   cbv at hi
   subst hi
   simp (maxSteps := 1000000) only [VL,VM,↓VG,reduceIte,reduceCtorEq,zA,zB,zC,zD,zE,zF,zG,zH,zI,zJ, gr, x0, x1, x2]
   replace v1 : 0 ≤ r.open_ := v1
   have hs0 := fromF_range (u := v) (lo := 0) (hi := r.open_) (by omega)
   apply call_d (f := 32) (fn := Try.f32) (by kernel_rfl) (by rfl)
   ·exact from_c (hGd _ _) v 0 r.open_ _ (by omega) (by omega) (by omega) (by omega)
   generalize fromF v 0 r.open_ = a at hs0 ⊢
   generalize fromU v 0 r.open_ = v'
   simp (maxSteps := 1000000) only [VL,VM,↓VG,reduceIte,reduceCtorEq,zA,zB,zC,zD,zE,zF,zG,zH,zI,zJ, gr, x0, x1, x2]
   have hs1 := castF_range (u := v') (n := 4) (by omega)
   apply call_d (f := 33) (fn := Try.f33) (by kernel_rfl) (by rfl)
   ·exact cast_c (hGd _ _) v' 4 _ (by omega)
   generalize castF v' 4 = b at hs1 ⊢
   generalize castU v' 4 = v''
   have t1 : -9223372036854775808 ≤ r.shut + b ∧ r.shut + b < 9223372036854775808 := by omega
   simp (maxSteps := 1000000) only [VL,VM,↓VG,reduceIte,reduceCtorEq,zA,zB,zC,zD,zE,zF,zG,zH,zI,zJ, gr, x0, x1, x2, t1]
   have hs2 := castF_range (u := v'') (n := 30) (by omega)
   apply call_d (f := 33) (fn := Try.f33) (by kernel_rfl) (by rfl)
   ·exact cast_c (hGd _ _) v'' 30 _ (by omega)
   generalize castF v'' 30 = c at hs2 ⊢
   generalize castU v'' 30 = w
   have t2 : -9223372036854775808 ≤ r.bears + c ∧ r.bears + c < 9223372036854775808 := by omega
   have xp := raF_put3 rs i r a (r.shut + b) (r.bears + c) hma
   have t4 : (i * 3 + 1 ≤ y.ramps.length * 3) = True := eq_true (by omega)
   have t5 : (i * 3 + 2 ≤ (List.take (i * 3) (raF rs)).length + ((List.drop (i * 3 + 1) (raF rs)).length + 1)) = True := eq_true (by
    rw [List.length_take, List.length_drop, xl]
    omega)
   have t6 : ∀ q1 q2, (i * 3 + 3 ≤ (List.take (i * 3 + 1) (List.take (i * 3) (raF rs) ++ q1 :: List.drop (i * 3 + 1) (raF rs))).length + ((List.drop (i * 3 + 2) (List.take (i * 3) (raF rs) ++ q2 :: List.drop (i * 3 + 1) (raF rs))).length + 1)) = True := fun q1 q2 => eq_true (by
    simp only [List.length_take, List.length_drop, List.length_append, List.length_cons, xl]
    omega)
   ((simp (maxSteps := 1000000) only [VL,VM,↓VG,reduceIte,reduceCtorEq,zA,zB,zC,zD,zE,zF,zG,zH,zI,zJ, gx, gr, grs, x0, x1, x2, t1, t2, t3, t4, t5, t6, xl, xp]); rw [hKn];clear hKn Kn;simp only [QV,reduceIte,reduceCtorEq,Nat.reduceEqDiff])
   ((repeat refine Ws ?_);refine W_regionE T_ok ?_; intro Kn hKn)
   ((simp (maxSteps := 1000000) only [VL,VM,↓VG,reduceIte,reduceCtorEq,zA,zB,zC,zD,zE,zF,zG,zH,zI,zJ, k1]); rw [hKn];clear hKn Kn;simp only [QV,reduceIte,reduceCtorEq,Nat.reduceEqDiff])
   exact LoopK.mk (i + 1, w, rs.set i ⟨a, r.shut + b, r.bears + c⟩) (by simp only; omega) ⟨by simp only; omega, he.step hx ⟨by simp only; omega, by simp only; omega, by simp only; omega, by simp only; omega, by simp only; omega, by simp only; omega⟩⟩ ⟨rfl, rfl, rfl, rfl, trivial⟩ rfl
 have k2 : ((i : Int) < (y.ramps.length : Int)) = False := eq_false (by omega)
 obtain rfl : i = y.ramps.length := by omega
 ((simp (maxSteps := 1000000) only [VL,VM,↓VG,reduceIte,reduceCtorEq,zA,zB,zC,zD,zE,zF,zG,zH,zI,zJ, gx, k2]); rw [hKn];clear hKn Kn;simp only [QV,reduceIte,reduceCtorEq,Nat.reduceEqDiff])
 ((repeat refine Ws ?_);refine Wf (by first|rfl|simp only [EV,zF,reduceIte]) ?_)
 (((repeat refine Ws ?_);refine W_exit ?_); simp only [QV,reduceIte,reduceCtorEq,Nat.reduceEqDiff])
 have hrl : rs.length = y.ramps.length := he.1
 refine W_seq ?_
 refine W_thenZ (σ := Int × List Ct) (fun _ => [(3, .ptr d 0), (4, .ptr H0.length 0), (5, .ptr G.length 0)]) (fun s => ⟨DH (GX G rid cid y.carts.length (raF rs) (ctF s.2)) d s.1 [.obj [.bf rid 0 y.ramps.length 3, cvP y.carts.length cid, vi sw]], M.lg ++ XY⟩) (fun s => EasTo EasC y.carts s.2 y.carts.length) ?_ ?_
 ·rcases Nat.eq_zero_or_pos y.carts.length with h0 | h0
  ·have hcv : cvP y.carts.length cid = .p (.sl 0 []) := by rw [cvP, if_pos h0]
   ((repeat refine Ws ?_);refine Wr ?_)
   simp (maxSteps := 1000000) only [VL,VM,↓VG,reduceIte,reduceCtorEq,zA,zB,zC,zD,zE,zF,zG,zH,zI,zJ]
   ((repeat refine Ws ?_);refine W_block ?_; (repeat refine Ws ?_)); refine W_loopS (fun _ : Unit => [(3, .ptr d 0), (4, .ptr H0.length 0), (5, .ptr G.length 0), (8, vi 0)]) (fun _ => ⟨DH (GX G rid cid y.carts.length (raF rs) (ctF y.carts)) d v [.obj [.bf rid 0 y.ramps.length 3, .p (.sl 0 []), vi sw]], M.lg ++ XY⟩) (fun _ => 0) (fun _ => True) () trivial ⟨rfl, rfl, rfl, rfl, trivial⟩ (by rw [hcv]) ?_
   rintro _ _
   ((repeat refine Ws ?_);refine W_regionE T_ok ?_; intro Kn hKn)
   ((simp (maxSteps := 1000000) only [VL,VM,↓VG,reduceIte,reduceCtorEq,zA,zB,zC,zD,zE,zF,zG,zH,zI,zJ, gx, show ((0 : Int) < ((0 : Nat) : Int)) = False from eq_false (by omega), show ((0 : Int) < (([] : List (List PV)).length : Int)) = False from eq_false (by simp)]); rw [hKn];clear hKn Kn;simp only [QV,reduceIte,reduceCtorEq,Nat.reduceEqDiff])
   ((repeat refine Ws ?_);refine Wf (by first|rfl|simp only [EV,zF,reduceIte]) ?_)
   (((repeat refine Ws ?_);refine W_exit ?_); simp only [QV,reduceIte,reduceCtorEq,Nat.reduceEqDiff])
   refine ⟨trivial, trivial, (v, y.carts), h0 ▸ EasTo.zero _, ?_, rfl, rfl, rfl, trivial⟩
   rw [hcv]
  ·have hn0 : y.carts.length ≠ 0 := by omega
   have hcv : cvP y.carts.length cid = .bf cid 0 y.carts.length 6 := by rw [cvP, if_neg hn0]
   have gc : ∀ u R C L, (DH (GX G rid cid y.carts.length R C) d u L)[cid]? = some (.obj C) := fun u R C L => GX_c hc u R C L hn0
   have gcs : ∀ u R C L C', (DH (GX G rid cid y.carts.length R C) d u L).set cid (.obj C') = DH (GX G rid cid y.carts.length R C') d u L := fun u R C L C' => GX_cs hc u R C L hn0 C'
   rw [hcv]
   ((repeat refine Ws ?_);refine Wr ?_)
   simp (maxSteps := 1000000) only [VL,VM,↓VG,reduceIte,reduceCtorEq,zA,zB,zC,zD,zE,zF,zG,zH,zI,zJ]
   ((repeat refine Ws ?_);refine W_block ?_; (repeat refine Ws ?_)); refine W_loopS (fun s : Nat × Int × List Ct => [(3, .ptr d 0), (4, .ptr H0.length 0), (5, .ptr G.length 0), (8, vi s.1)]) (fun s => ⟨DH (GX G rid cid y.carts.length (raF rs) (ctF s.2.2)) d s.2.1 [.obj [.bf rid 0 y.ramps.length 3, .bf cid 0 y.carts.length 6, vi sw]], M.lg ++ XY⟩) (fun s => y.carts.length - s.1) (fun s => s.1 ≤ y.carts.length ∧ EasTo EasC y.carts s.2.2 s.1) (0, v, y.carts) ⟨Nat.zero_le _, EasTo.zero _⟩ ⟨rfl, rfl, rfl, rfl, trivial⟩ rfl ?_
   rintro ⟨i, v0, cs⟩ ⟨hi, hce⟩
   simp only at hi hce
   have k1 : -9223372036854775808 ≤ (i : Int) + 1 ∧ (i : Int) + 1 < 9223372036854775808 := by omega
   simp only
   ((repeat refine Ws ?_);refine W_regionE T_ok ?_; intro Kn hKn)
   rcases Nat.lt_or_ge i y.carts.length with hlt | hge
   ·have k2 : ((i : Int) < (y.carts.length : Int)) = True := eq_true (by omega)
    have hx : y.carts[i]? = some y.carts[i] := List.getElem?_eq_getElem hlt
    have hrm := md.ct _ (List.getElem_mem hlt)
    generalize y.carts[i] = r at hx hrm
    have v1 := hrm.f0
    have v2 := hrm.fu
    have v3 := hrm.u1
    have v4 := hrm.g0
    have v5 := hrm.g1
    have v6 := hrm.l0
    have v7 := hrm.lh
    have v8 := hrm.h1
    have hma := hce.at hx
    have hml := hce.1
    obtain ⟨x0, x1, x2, x3, x4⟩ := ctF_at cs i r hma
    have xl : (ctF cs).length = y.carts.length * 6 := by rw [ctF_len, hml]
    ((simp (maxSteps := 1000000) only [VL,VM,↓VG,reduceIte,reduceCtorEq,zA,zB,zC,zD,zE,zF,zG,zH,zI,zJ, gx, k2]); rw [hKn];clear hKn Kn;simp only [QV,reduceIte,reduceCtorEq,Nat.reduceEqDiff])
    ((repeat refine Ws ?_);refine Wt (by first|rfl|simp only [EV,zF,reduceIte]) ?_)
    (((repeat refine Ws ?_);refine W_skip ?_); simp only [QV,reduceIte,reduceCtorEq,Nat.reduceEqDiff])
    ((repeat refine Ws ?_);refine W_block ?_)
    ·have t3 : (i < y.carts.length) = True := eq_true hlt
     ((repeat refine Ws ?_);refine W_regionE T_ok ?_; intro Kn hKn)
     ((simp (maxSteps := 1000000) only [VL,VM,↓VG,reduceIte,reduceCtorEq,zA,zB,zC,zD,zE,zF,zG,zH,zI,zJ, gx, t3]); rw [hKn];clear hKn Kn;simp only [QV,reduceIte,reduceCtorEq,Nat.reduceEqDiff])
     (repeat refine Ws ?_)
     refine W_drawE T_ok [] (by kernel_rfl) (by kernel_rfl) ?_
     intro Kn hKn
     generalize hi : mkPlan _ = infs
     cbv at hi
     subst hi
     simp (maxSteps := 1000000) only [VL,VM,↓VG,reduceIte,reduceCtorEq,zA,zB,zC,zD,zE,zF,zG,zH,zI,zJ, gc, x0, x1, x2, x3, x4]
     replace v1 : 0 ≤ r.from_ := v1
     replace v4 : 0 ≤ r.grams := v4
     have hs0 := fromF_range (u := v0) (lo := 0) (hi := r.from_) (by omega)
     apply call_d (f := 32) (fn := Try.f32) (by kernel_rfl) (by rfl)
     ·exact from_c (hGd _ _) v0 0 r.from_ _ (by omega) (by omega) (by omega) (by omega)
     generalize fromF v0 0 r.from_ = a at hs0 ⊢
     generalize fromU v0 0 r.from_ = v'
     simp (maxSteps := 1000000) only [VL,VM,↓VG,reduceIte,reduceCtorEq,zA,zB,zC,zD,zE,zF,zG,zH,zI,zJ, gc, x0, x1, x2, x3, x4]
     have hs1 := castF_range (u := v') (n := 4) (by omega)
     apply call_d (f := 33) (fn := Try.f33) (by kernel_rfl) (by rfl)
     ·exact cast_c (hGd _ _) v' 4 _ (by omega)
     generalize castF v' 4 = b at hs1 ⊢
     generalize castU v' 4 = v''
     have t1 : -9223372036854775808 ≤ r.until_ + b ∧ r.until_ + b < 9223372036854775808 := by omega
     simp (maxSteps := 1000000) only [VL,VM,↓VG,reduceIte,reduceCtorEq,zA,zB,zC,zD,zE,zF,zG,zH,zI,zJ, gc, x0, x1, x2, x3, x4, t1]
     have hs2 := fromF_range (u := v'') (lo := 0) (hi := r.grams) (by omega)
     apply call_d (f := 32) (fn := Try.f32) (by kernel_rfl) (by rfl)
     ·exact from_c (hGd _ _) v'' 0 r.grams _ (by omega) (by omega) (by omega) (by omega)
     generalize fromF v'' 0 r.grams = c at hs2 ⊢
     generalize fromU v'' 0 r.grams = w
     have xp := ctF_put3 cs i r a (r.until_ + b) c hma
     have t4 : (i * 6 + 1 ≤ y.carts.length * 6) = True := eq_true (by omega)
     have t5 : (i * 6 + 2 ≤ (List.take (i * 6) (ctF cs)).length + ((List.drop (i * 6 + 1) (ctF cs)).length + 1)) = True := eq_true (by
      rw [List.length_take, List.length_drop, xl]
      omega)
     have t6 : ∀ q1 q2, (i * 6 + 5 ≤ (List.take (i * 6 + 1) (List.take (i * 6) (ctF cs) ++ q1 :: List.drop (i * 6 + 1) (ctF cs))).length + ((List.drop (i * 6 + 2) (List.take (i * 6) (ctF cs) ++ q2 :: List.drop (i * 6 + 1) (ctF cs))).length + 1)) = True := fun q1 q2 => eq_true (by
      simp only [List.length_take, List.length_drop, List.length_append, List.length_cons, xl]
      omega)
     ((simp (maxSteps := 1000000) only [VL,VM,↓VG,reduceIte,reduceCtorEq,zA,zB,zC,zD,zE,zF,zG,zH,zI,zJ, gx, gc, gcs, x0, x1, x2, x3, x4, t1, t3, t4, t5, t6, xl, xp]); rw [hKn];clear hKn Kn;simp only [QV,reduceIte,reduceCtorEq,Nat.reduceEqDiff])
     clear xp t4 t5 t6
     generalize hz : ({ r with from_ := a, until_ := r.until_ + b, grams := c } : Ct) = z
     have hic : i < cs.length := by rw [hml]; exact hlt
     have hq : (cs.set i z)[i]? = some z := by rw [List.getElem?_set_self hic]
     have hql : (cs.set i z).length = y.carts.length := by rw [List.length_set]; exact hml
     have hss : ∀ q, (cs.set i z).set i q = cs.set i q := fun q => List.set_set ..
     have hzt : z.takes = r.takes := by rw [← hz]
     generalize cs.set i z = cs1 at hq hql hss ⊢
     obtain ⟨w0, w1, w2, w3, w4⟩ := ctF_at cs1 i z hq
     rw [hzt] at w2 w3
     have xl2 : (ctF cs1).length = y.carts.length * 6 := by rw [ctF_len, hql]
     (repeat refine Ws ?_)
     refine W_drawE T_ok [] (by kernel_rfl) (by kernel_rfl) ?_
     intro Kn hKn
     generalize hi : mkPlan _ = infs
     cbv at hi
     subst hi
     simp (maxSteps := 1000000) only [VL,VM,↓VG,reduceIte,reduceCtorEq,zA,zB,zC,zD,zE,zF,zG,zH,zI,zJ, gc, w0, w1, w2, w3, w4]
     replace v6 : 1 ≤ r.takes.lo := v6
     have hs3 := fromF_range (u := w) (lo := 1) (hi := r.takes.lo) (by omega)
     apply call_d (f := 32) (fn := Try.f32) (by kernel_rfl) (by rfl)
     ·exact from_c (hGd _ _) w 1 r.takes.lo _ (by omega) (by omega) (by omega) (by omega)
     generalize fromF w 1 r.takes.lo = e1 at hs3 ⊢
     generalize fromU w 1 r.takes.lo = w'
     simp (maxSteps := 1000000) only [VL,VM,↓VG,reduceIte,reduceCtorEq,zA,zB,zC,zD,zE,zF,zG,zH,zI,zJ, gc, w0, w1, w2, w3, w4]
     have hs4 := fromF_range (u := w') (lo := r.takes.lo) (hi := r.takes.hi) (by omega)
     apply call_d (f := 32) (fn := Try.f32) (by kernel_rfl) (by rfl)
     ·exact from_c (hGd _ _) w' r.takes.lo r.takes.hi _ (by omega) (by omega) (by omega) (by omega)
     generalize fromF w' r.takes.lo r.takes.hi = e2 at hs4 ⊢
     generalize fromU w' r.takes.lo r.takes.hi = u9
     simp (maxSteps := 1000000) only [VL,VM,↓VG,reduceIte,reduceCtorEq,zA,zB,zC,zD,zE,zF,zG,zH,zI,zJ]
     apply call_d (f := 34) (fn := Try.f34) (by kernel_rfl) (by rfl)
     ·exact span_v e1 e2 _
     have xq := ctF_putS cs1 i z e1 e2 hq
     rw [hss] at xq
     have t7 : (i * 6 + 4 ≤ y.carts.length * 6) = True := eq_true (by omega)
     ((simp (maxSteps := 1000000) only [VL,VM,↓VG,reduceIte,reduceCtorEq,zA,zB,zC,zD,zE,zF,zG,zH,zI,zJ, gx, gc, gcs, w0, w1, w2, w3, w4, t3, t7, xl2, xq]); rw [hKn];clear hKn Kn;simp only [QV,reduceIte,reduceCtorEq,Nat.reduceEqDiff])
     ((repeat refine Ws ?_);refine W_regionE T_ok ?_; intro Kn hKn)
     ((simp (maxSteps := 1000000) only [VL,VM,↓VG,reduceIte,reduceCtorEq,zA,zB,zC,zD,zE,zF,zG,zH,zI,zJ, k1]); rw [hKn];clear hKn Kn;simp only [QV,reduceIte,reduceCtorEq,Nat.reduceEqDiff])
     subst hz
     exact LoopK.mk (i + 1, u9, cs.set i { r with from_ := a, until_ := r.until_ + b, takes := ⟨e1, e2⟩, grams := c }) (by simp only; omega) ⟨by simp only; omega, hce.step hx ⟨by first | omega | (simp only; omega), by first | omega | (simp only; omega), by first | omega | (simp only; omega), by first | omega | (simp only; omega), by first | omega | (simp only; omega), by first | omega | (simp only; omega), by first | omega | (simp only; omega), by first | omega | (simp only; omega), by first | omega | (simp only; omega), by first | omega | (simp only; omega), rfl⟩⟩ ⟨rfl, rfl, rfl, rfl, trivial⟩ rfl
   have k2 : ((i : Int) < (y.carts.length : Int)) = False := eq_false (by omega)
   obtain rfl : i = y.carts.length := by omega
   ((simp (maxSteps := 1000000) only [VL,VM,↓VG,reduceIte,reduceCtorEq,zA,zB,zC,zD,zE,zF,zG,zH,zI,zJ, gx, k2]); rw [hKn];clear hKn Kn;simp only [QV,reduceIte,reduceCtorEq,Nat.reduceEqDiff])
   ((repeat refine Ws ?_);refine Wf (by first|rfl|simp only [EV,zF,reduceIte]) ?_)
   (((repeat refine Ws ?_);refine W_exit ?_); simp only [QV,reduceIte,reduceCtorEq,Nat.reduceEqDiff])
   exact ⟨trivial, trivial, (v0, cs), hce, by first | rfl | rw [hcv], rfl, rfl, rfl, trivial⟩
 rintro ⟨v1, cs⟩ e' hce hS
 simp only at hce
 refine WCode.weak (e' := _) ?_ (Sub.ok hS)
 clear hS e'
 (repeat refine Ws ?_)
 refine W_frzY hr hc hdr hdl hrl hce.1 (fun Hf q1 q2 q3 => ?_)
 obtain ⟨L, hL⟩ : ∃ L, Hf = M.H ++ L := by
  refine ⟨Hf.drop M.H.length, ?_⟩
  have : Hf.take M.H.length = M.H := by
   refine List.ext_getElem? fun i => ?_
   rw [List.getElem?_take]
   split
   ·rename_i hi
    rw [q1 i (by omega) (fun h => by omega) (by omega), GX_o v1 _ _ _ (by omega) (fun h => by omega) (by omega) (by omega)]
    exact pre i hi
   ·rename_i hi
    rw [List.getElem?_eq_none (by omega)]
  conv => lhs; rw [← List.take_append_drop M.H.length Hf, this]
 have hb4 : (M.H ++ L)[H0.length]? = some (.obj (yardC y)) := by
  rw [← hL, q1 _ (by omega) (fun h => by omega) (by omega), GX_o v1 _ _ _ (by omega) (fun h => by omega) (by omega) (by omega)]
  exact hyb
 rw [hL] at q3 ⊢
 obtain ⟨x, hxd⟩ : ∃ x : Ya, x = ⟨rs, cs, sw⟩ := ⟨_, rfl⟩
 have hb6 : (M.H ++ L)[G.length]? = some (.obj (yardC x))   := by rw [q3, hxd]
 have hx : YaV x := by rw [hxd]; exact eas_valid md hm30 he hce hsw.1 hsw.2
 have hE : Eas y x := by rw [hxd]; exact eas_yard he hce hsw.2
 have hxl : x.ramps.length ≤ 1000000 ∧ x.carts.length ≤ 1000000 ∧ ∀ c ∈ x.carts, c.ramps.length ≤ 1000000 := by
  refine ⟨by rw [hE.nr]; exact lens.1, by rw [hE.nc]; exact lens.2.1, fun c hc => ?_⟩
  rw [hxd] at hc
  obtain ⟨j, hj, rfl⟩ := List.getElem_of_mem hc
  have hj' : j < y.carts.length := by rw [← hce.1]; exact hj
  have e := EasTo.all hce j _ _ (List.getElem?_eq_getElem hj') (List.getElem?_eq_getElem hj)
  rw [e.r]
  exact lens.2.2 _ (List.getElem_mem hj')
 obtain ⟨l1, el1, ok1⟩ : ∃ l, mostT y = (l, 0) ∧ MostOk y l := by
  refine ⟨_, ?_, most_ok⟩
  rw [mostT, if_pos (yErr_ok.2 hy)]
  cases (mostL y).find? (canB y) <;> rfl
 obtain ⟨l2, el2, ok2⟩ : ∃ l, mostT x = (l, 0) ∧ MostOk x l := by
  refine ⟨_, ?_, most_ok⟩
  rw [mostT, if_pos (yErr_ok.2 hx)]
  cases (mostL x).find? (canB x) <;> rfl
 have hml := hE.most hy hx ok1 ok2
 have hcan := hE.can hy hx
 have hlast := fun p q => hE.last hy hx (p := p) (q := q)
 clear q1 q2 q3 hmem gx gxs gr grs gy hyb pre hself hJq hX2
 have hz1 : ((l2.length : Int) ≥ (l1.length : Int)) = True := eq_true (by omega)
 have hz2 : ((l1.length : Int) ≤ (l2.length : Int)) = True := eq_true (by omega)
 ((repeat refine Ws ?_);refine W_regionE T_ok ?_; intro Kn hKn)
 simp (maxSteps := 1000000) only [VL,VM,↓VG,reduceIte,reduceCtorEq,zA,zB,zC,zD,zE,zF,zG,zH,zI,zJ, hb4]
 apply call_eq (f := 21) (fn := Try.f21) (by kernel_rfl) (by rfl)
 ·exact pserve_v y _ lens.1 lens.2.1 lens.2.2
 rw [serveV]
 ((simp (maxSteps := 1000000) only [VL,VM,↓VG,reduceIte,reduceCtorEq,zA,zB,zC,zD,zE,zF,zG,zH,zI,zJ]); rw [hKn];clear hKn Kn;simp only [QV,reduceIte,reduceCtorEq,Nat.reduceEqDiff])
 ((repeat refine Ws ?_);refine W_regionE T_ok ?_; intro Kn hKn)
 simp (maxSteps := 1000000) only [VL,VM,↓VG,reduceIte,reduceCtorEq,zA,zB,zC,zD,zE,zF,zG,zH,zI,zJ, hb6]
 apply call_eq (f := 21) (fn := Try.f21) (by kernel_rfl) (by rfl)
 ·exact pserve_v x _ hxl.1 hxl.2.1 hxl.2.2
 rw [serveV]
 ((simp (maxSteps := 1000000) only [VL,VM,↓VG,reduceIte,reduceCtorEq,zA,zB,zC,zD,zE,zF,zG,zH,zI,zJ]); rw [hKn];clear hKn Kn;simp only [QV,reduceIte,reduceCtorEq,Nat.reduceEqDiff])
 ((repeat refine Ws ?_);refine W_regionE T_ok ?_; intro Kn hKn)
 simp (maxSteps := 1000000) only [VL,VM,↓VG,reduceIte,reduceCtorEq,zA,zB,zC,zD,zE,zF,zG,zH,zI,zJ, hb4]
 apply call_eq (f := 27) (fn := Try.f27) (by kernel_rfl) (by rfl)
 ·exact pmost_v y _ lens.1 lens.2.1 lens.2.2
 rw [el1]
 ((simp (maxSteps := 1000000) only [VL,VM,↓VG,reduceIte,reduceCtorEq,zA,zB,zC,zD,zE,zF,zG,zH,zI,zJ]); rw [hKn];clear hKn Kn;simp only [QV,reduceIte,reduceCtorEq,Nat.reduceEqDiff])
 ((repeat refine Ws ?_);refine W_regionE T_ok ?_; intro Kn hKn)
 simp (maxSteps := 1000000) only [VL,VM,↓VG,reduceIte,reduceCtorEq,zA,zB,zC,zD,zE,zF,zG,zH,zI,zJ, hb6]
 apply call_eq (f := 27) (fn := Try.f27) (by kernel_rfl) (by rfl)
 ·exact pmost_v x _ hxl.1 hxl.2.1 hxl.2.2
 rw [el2]
 ((simp (maxSteps := 1000000) only [VL,VM,↓VG,reduceIte,reduceCtorEq,zA,zB,zC,zD,zE,zF,zG,zH,zI,zJ]); rw [hKn];clear hKn Kn;simp only [QV,reduceIte,reduceCtorEq,Nat.reduceEqDiff])
 cases hs : servedR y with
 | none =>
  rw [serve_none hy hs]
  ((repeat refine Ws ?_);refine W_regionE T_ok ?_; intro Kn hKn)
  simp (maxSteps := 1000000) only [VL,VM,↓VG,reduceIte,reduceCtorEq,zA,zB,zC,zD,zE,zF,zG,zH,zI,zJ, eq_self, decide_true, Bool.not_true, hz1, hz2, show ((3 : Int) = 0) = False from eq_false (by decide)]
  apply call_eq (f := 16) (fn := Try.f16) (by kernel_rfl) (by rfl)
  ·exact awake_v _
  ((simp (maxSteps := 1000000) only [VL,VM,↓VG,reduceIte,reduceCtorEq,zA,zB,zC,zD,zE,zF,zG,zH,zI,zJ, eq_self, decide_true, Bool.not_true, hz1, hz2, show ((3 : Int) = 0) = False from eq_false (by decide)]); rw [hKn];clear hKn Kn;simp only [QV,reduceIte,reduceCtorEq,Nat.reduceEqDiff])
  (repeat refine Ws ?_)
  refine W_ret ?_
  try simp only [thenQ, blockQ]
  exact own_ret1X hXY rfl rfl (by rfl)
 | some p =>
  rw [serve_some hy hs]
  have hq0 := hcan (by rw [hs]; rfl)
  obtain ⟨q, hqs⟩ := Option.isSome_iff_exists.1 hq0
  rw [serve_some hx hqs]
  have hz3 : (lastV x q ≤ lastV y p) = True := eq_true (hlast p q hs hqs)
  ((repeat refine Ws ?_);refine W_regionE T_ok ?_; intro Kn hKn)
  simp (maxSteps := 1000000) only [VL,VM,↓VG,reduceIte,reduceCtorEq,zA,zB,zC,zD,zE,zF,zG,zH,zI,zJ, eq_self, decide_true, Bool.not_true, hz1, hz2, hz3, show ((0 : Int) = 3) = False from eq_false (by decide)]
  apply call_eq (f := 16) (fn := Try.f16) (by kernel_rfl) (by rfl)
  ·exact awake_v _
  ((simp (maxSteps := 1000000) only [VL,VM,↓VG,reduceIte,reduceCtorEq,zA,zB,zC,zD,zE,zF,zG,zH,zI,zJ, eq_self, decide_true, Bool.not_true, hz1, hz2, hz3, show ((0 : Int) = 3) = False from eq_false (by decide)]); rw [hKn];clear hKn Kn;simp only [QV,reduceIte,reduceCtorEq,Nat.reduceEqDiff])
  (repeat refine Ws ?_)
  refine W_ret ?_
  try simp only [thenQ, blockQ]
  exact own_ret1X hXY rfl rfl (by rfl)
end Go.Proofs.Ythcicaelnchfdaa.Vm
