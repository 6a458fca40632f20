/- A part of the proofs about the chapter of the ramps; it states no condition of its own. -/
import Derived.Test.YthcicaelnchfdaaB37
import Derived.Test.YthcicaelnchfdaaB43
import Derived.Test.YthcicaelnchfdaaB44
import Derived.Test.YthcicaelnchfdaaB45
set_option linter.unusedVariables false
set_option linter.unusedSimpArgs false
open Int renaming reduceLE → zA, reduceLT → zB, reduceToNat → zC, reduceNeg → zD
open Nat renaming reduceLT → zE, reduceEqDiff → zF, reduceAdd → zG, reduceSub → zH, reduceMul → zI, reduceLeDiff → zJ
/- The law of valid yards and plans, on values. (Vm) -/
namespace Go.Proofs.Ythcicaelnchfdaa.Vm
open Go Go.Proofs
def awayT (y : Ya) (p : List St) : List Sp := if plErr y p = 0 then awayL y p else []
theorem awayV_T (y : Ya) (p : List St) : awayV y p = .tup [spsV (awayT y p), vi (plErr y p)] := by
 unfold awayV awayT
 split
 ·rename_i h; rw [h]
 ·rfl
theorem awayT_len (y : Ya) (p : List St) : (awayT y p).length ≤ p.length := by
 unfold awayT
 split
 ·simp [awayL]; omega
 ·simp
theorem stC_get0 : ∀ (l : List St) (i : Nat) (s : St), i < l.length → (stC l).take (i * 2) ++ vi s.ramp :: vi s.from_ :: (stC l).drop (i * 2 + 2) = stC (l.set i s)
 | x :: l, 0, s, _ => by rw [stC_cons, List.set_cons_zero, stC_cons]; simp
 | x :: l, i + 1, s, h => by
  have ih := stC_get0 l i s (by simpa using h)
  rw [stC_cons, List.set_cons_succ, stC_cons, show (i + 1) * 2 = i * 2 + 1 + 1 by omega, show i * 2 + 1 + 1 + 2 = i * 2 + 2 + 1 + 1 by omega]
  simp only [List.take_succ_cons, List.drop_succ_cons, List.cons_append]
  rw [ih]
theorem bringF_bd (a n : Int) (hn : 1 ≤ n) : 0 ≤ bringF a n ∧ bringF a n < n := by
 unfold bringF
 split
 ·omega
 ·have h1 := Int.lt_tmod_of_pos a (show 0 < n by omega)
  have h2 := Int.tmod_lt_of_pos a (show 0 < n by omega)
  split <;> omega
theorem W_thenY {P : Program} {cx : Cx} {e : Env} {M : Mem} {D : List Nat} {Q : PQ} {c : Code} {σ : Type} {Kn : Env → Mem → List Nat → Prop} (E : σ → Env) (N : σ → Mem) (good : σ → Prop) (h1 : WCode P cx c e M D (fun ex e' M' D' => ex = .normal ∧ D' = D ∧ ∃ s, good s ∧ M' = N s ∧ Sub (E s) e')) (h2 : ∀ s e', good s → Sub (E s) e' → Kn e' (N s) D) : WCode P cx c e M D (thenQ Kn Q) :=
 h1.mono (by rintro ex e' M' D' ⟨rfl, rfl, s, hg, rfl, hS⟩; exact h2 s e' hg hS)
abbrev stPP (l : List St) : List PV := [.sl 2 (l.map stP)]
structure NhA where
 i : Nat
 junk : List VObj
attribute [local irreducible] castF castU fromF fromU oneF oneU yardS slotsS onceF
set_option maxHeartbeats 16000000 in
set_option maxRecDepth 100000 in
theorem plans_law_v (y : Ya) (plan : List St) (at_ : Int) (s : St) (xs : List Int) (M : Mem) (hy : y.carts.length ≤ maxLen) (hl : xs.length ≤ maxLen) : VC Try.prog 12 [yardV y, stsV plan, vi at_, stV s, intsV xs] M (fun r M' => M' = M ∧ r = vb true) := by
 refine VC_own' T_ok (f := 12) (fn := Try.f12) (by kernel_rfl) rfl Try.ntmps12 (by rfl) (by rfl) ?_
 ((repeat refine Ws ?_);refine Wr ?_)
 simp (maxSteps := 1000000) only [VL,VM,↓VG,reduceIte,reduceCtorEq,zA,zB,zC,zD,zE,zF,zG,zH,zI,zJ]
 obtain ⟨Mb, hMb⟩ : ∃ Mb, Mb = M.H ++ [VObj.obj (yardC y), .obj [vi s.ramp, vi s.from_]] := ⟨_, rfl⟩
 rw [← hMb]
 have b0 : Mb[M.H.length]? = some (.obj (yardC y)) := by rw [hMb, hget0]; rfl
 by_cases hbig : vastB y = true ∨ 20 < plan.length
 ·(repeat refine Ws ?_)
  refine W_then [(5, .ptr M.H.length 0), (37, vb true)] ⟨Mb, M.lg⟩ ?_ ?_
  ·((repeat refine Ws ?_);refine Wr ?_)
   simp (maxSteps := 1000000) only [VL,VM,↓VG,reduceIte,reduceCtorEq,zA,zB,zC,zD,zE,zF,zG,zH,zI,zJ, b0]
   apply call_eq (f := 14) (fn := Try.f14) (by kernel_rfl) (by rfl)
   ·exact vast_v y _ hy
   cases hvast : vastB y with
   | true =>
    simp (maxSteps := 1000000) only [VL,VM,↓VG,reduceIte,reduceCtorEq,zA,zB,zC,zD,zE,zF,zG,zH,zI,zJ]
    exact ⟨rfl, rfl, trivial⟩
   | false =>
    have h3 : 20 < plan.length := by
     rcases hbig with h | h
     ·rw [hvast] at h; cases h
     ·exact h
    have k1 : ((20 : Int) < (plan.length : Int)) = True := eq_true (by omega)
    simp (maxSteps := 1000000) only [VL,VM,↓VG,reduceIte,reduceCtorEq,zA,zB,zC,zD,zE,zF,zG,zH,zI,zJ, k1]
    exact ⟨rfl, rfl, trivial⟩
  intro _ e' hS
  refine WCode.weak (e' := [(5, .ptr M.H.length 0), (37, vb true)]) ?_ (Sub.ok hS)
  rw [hMb]
  ((repeat refine Ws ?_);refine Wt (by first|rfl|simp only [EV,zF,reduceIte]) ?_)
  ((repeat refine Ws ?_);refine Wr ?_)
  simp (maxSteps := 1000000) only [VL,VM,↓VG,reduceIte,reduceCtorEq,zA,zB,zC,zD,zE,zF,zG,zH,zI,zJ]
  apply call_eq (f := 16) (fn := Try.f16) (by kernel_rfl) (by rfl)
  ·exact awake_v _
  simp (maxSteps := 1000000) only [VL,VM,↓VG,reduceIte,reduceCtorEq,zA,zB,zC,zD,zE,zF,zG,zH,zI,zJ]
  (repeat refine Ws ?_)
  refine W_ret ?_
  try simp only [thenQ, blockQ]
  refine own_ret1 rfl ?_ (by rfl)
  simp only [get_cons, frz, vtup, Nat.reduceEqDiff, if_true, if_false, reduceIte]
 have hvast : vastB y = false := by
  cases h : vastB y with
  | true => exact absurd (.inl h) hbig
  | false => rfl
 obtain ⟨b1, b2, b3⟩ := not_vast hvast
 have b4 : plan.length ≤ 20 := by
  rcases Nat.lt_or_ge 20 plan.length with h | h
  ·exact absurd (.inr h) hbig
  ·exact h
 have k1 : ((20 : Int) < (plan.length : Int)) = False := eq_false (by omega)
 ((repeat refine Ws ?_);refine Wr ?_)
 simp (maxSteps := 1000000) only [VL,VM,↓VG,reduceIte,reduceCtorEq,zA,zB,zC,zD,zE,zF,zG,zH,zI,zJ, b0]
 apply call_eq (f := 14) (fn := Try.f14) (by kernel_rfl) (by rfl)
 ·exact vast_v y _ hy
 rw [hvast]
 simp (maxSteps := 1000000) only [VL,VM,↓VG,reduceIte,reduceCtorEq,zA,zB,zC,zD,zE,zF,zG,zH,zI,zJ, k1]
 ((repeat refine Ws ?_);refine Wf (by first|rfl|simp only [EV,zF,reduceIte]) ?_)
 ((repeat refine Ws ?_);refine W_skip ?_)
 simp (maxSteps := 1000000) only [VL,VM,↓VG,reduceIte,reduceCtorEq,zA,zB,zC,zD,zE,zF,zG,zH,zI,zJ]
 ((repeat refine Ws ?_);refine Wr ?_)
 simp (maxSteps := 1000000) only [VL,VM,↓VG,reduceIte,reduceCtorEq,zA,zB,zC,zD,zE,zF,zG,zH,zI,zJ]
 apply call_eq (f := 17) (fn := Try.f17) (by kernel_rfl) (by rfl)
 ·exact dieOf_v xs _ hl
 obtain ⟨H0, hH0⟩ : ∃ H0, H0 = Mb ++ [VObj.dead] := ⟨_, rfl⟩
 obtain ⟨d, hdd⟩ : ∃ d, d = Mb.length := ⟨_, rfl⟩
 have hd : d < H0.length := by rw [hH0, hdd]; simp
 have hMbl : Mb.length = M.H.length + 2 := by rw [hMb]; simp
 have hlen0 : H0.length = M.H.length + 3 := by rw [hH0, List.length_append, hMbl]; rfl
 rw [← hH0, ← hdd]
 have tail : ∀ u L, DH H0 d u L = M.H ++ (VObj.obj (yardC y) :: .obj [vi s.ramp, vi s.from_] :: .obj [uv u] :: L) := fun u L => by
  rw [hH0, hdd]
  have := DH_tail ⟨Mb, M.lg⟩ u L
  rw [this, hMb]
  simp
 have hby : ∀ u L, (DH H0 d u L)[M.H.length]? = some (VObj.obj (yardC y)) := fun u L => by rw [tail, hget0]; rfl
 have hbs : ∀ u L, (DH H0 d u L)[M.H.length + 1]? = some (VObj.obj [vi s.ramp, vi s.from_]) := fun u L => by rw [tail, hget]; rfl
 generalize dieU xs = u0
 simp (maxSteps := 1000000) only [VL,VM,↓VG,reduceIte,reduceCtorEq,zA,zB,zC,zD,zE,zF,zG,zH,zI,zJ]
 have o1 := one2 (u := u0) (a := 9) (b := 60)
 ((repeat refine Ws ?_);refine Wr ?_)
 simp (maxSteps := 1000000) only [VL,VM,↓VG,reduceIte,reduceCtorEq,zA,zB,zC,zD,zE,zF,zG,zH,zI,zJ]
 apply call_eq (f := 19) (fn := Try.f19) (by kernel_rfl) (by rfl)
 ·exact one_c hd u0 [9, 60] M.lg (by simp) (by simp)
 generalize oneF u0 [9, 60] = m1 at o1 ⊢
 generalize oneU u0 [9, 60] = u1
 simp (maxSteps := 1000000) only [VL,VM,↓VG,reduceIte,reduceCtorEq,zA,zB,zC,zD,zE,zF,zG,zH,zI,zJ]
 apply call_eq (f := 18) (fn := Try.f18) (by kernel_rfl) (by rfl)
 ·exact yardOf_d hd u1 M.lg 3 5 m1 (by omega) (by omega) (by omega)
 have md := yardS_made (u := u1) (A := 3) (B := 5) (m := m1) (by omega) (by omega) (by omega)
 generalize yardS u1 3 5 m1 = y2 at md ⊢
 obtain ⟨z, u2⟩ := y2
 simp only at md ⊢
 have hz := md.V (by omega) (by omega) (by omega)
 have lens := md.len (by omega) (by omega)
 have hsz := md.short (by omega) (by omega)
 have hc5 := md.m1
 have o2 := one2 (u := u2) (a := 9) (b := 60)
 simp (maxSteps := 1000000) only [VL,VM,↓VG,reduceIte,reduceCtorEq,zA,zB,zC,zD,zE,zF,zG,zH,zI,zJ, DH_app hd, DH_len, DH_len0, DH_get hd, DH_get0 hd, DH_set hd, DH_set0 hd, DH_setd, DH_die hd]
 (repeat refine Ws ?_)
 refine W_drawP T_ok [] (by kernel_rfl) (by kernel_rfl) ?_
 generalize hi : mkPlan _ = infs
 cbv at hi
 subst hi
 simp (maxSteps := 1000000) only [VL,VM,↓VG,reduceIte,reduceCtorEq,zA,zB,zC,zD,zE,zF,zG,zH,zI,zJ, DH_app hd, DH_len, DH_len0, DH_get hd, DH_get0 hd, DH_set hd, DH_set0 hd, DH_setd, DH_die hd]
 apply call_d (f := 19) (fn := Try.f19) (by kernel_rfl) (by rfl)
 ·exact one_c hd u2 [9, 60] M.lg (by simp) (by simp)
 generalize oneF u2 [9, 60] = m2 at o2 ⊢
 generalize oneU u2 [9, 60] = u3
 simp (maxSteps := 1000000) only [VL,VM,↓VG,reduceIte,reduceCtorEq,zA,zB,zC,zD,zE,zF,zG,zH,zI,zJ, DH_app hd, DH_len, DH_len0, DH_get hd, DH_get0 hd, DH_set hd, DH_set0 hd, DH_setd, DH_die hd]
 have hslots := slotsOf_d (H0 := H0 ++ [.obj (yardC z)]) (d := d) (by rw [List.length_append]; omega) u3 M.lg hz lens m2 (by omega)
 rw [← DH_base, ← DH_base] at hslots
 apply call_d (f := 36) (fn := Try.f36) (by kernel_rfl) (by rfl)
 ·exact hslots
 obtain ⟨b, u4, p, hsl⟩ : ∃ b u4 p, slotsS z m2 u3 z.carts.length = (b, u4, p) := ⟨_, _, _, rfl⟩
 have hpl : p.length ≤ 5 := by
  cases b with
  | true =>
   have h2 : p.length = z.carts.length := (slots_pl (m := m2) hz (by omega) hsl).len
   have h5 : z.carts.length ≤ 5 := by exact_mod_cast hc5
   rw [h2]; exact h5
  | false =>
   have := slots_no (y := z) (m := m2) (u := u3) z.carts.length (by rw [hsl])
   rw [hsl] at this
   simp only at this
   rw [this]; simp
 rw [hsl]
 simp (maxSteps := 1000000) only [VL,VM,↓VG,reduceIte,reduceCtorEq,zA,zB,zC,zD,zE,zF,zG,zH,zI,zJ, DH_app hd, DH_len, DH_len0, DH_get hd, DH_get0 hd, DH_set hd, DH_set0 hd, DH_setd, DH_die hd]
 ((repeat refine Ws ?_);refine Wr ?_)
 simp (maxSteps := 1000000) only [VL,VM,↓VG,reduceIte,reduceCtorEq,zA,zB,zC,zD,zE,zF,zG,zH,zI,zJ, DH_app hd, DH_len, DH_len0, DH_get hd, DH_get0 hd, DH_set hd, DH_set0 hd, DH_setd, DH_die hd]
 apply call_eq (f := 42) (fn := Try.f42) (by kernel_rfl) (by rfl)
 ·exact served_v hz _
 have hsv : ((servedR z).getD []).length ≤ 5 := by
  cases h : servedR z with
  | none => simp
  | some q =>
   have h2 : q.length = z.carts.length := (servedR_pb hz h).1
   have h5 : z.carts.length ≤ 5 := by exact_mod_cast hc5
   simp only [Option.getD_some]
   rw [h2]; exact h5
 generalize (servedR z).getD [] = bst at hsv ⊢
 generalize (servedR z).isSome = cn
 simp (maxSteps := 1000000) only [VL,VM,↓VG,reduceIte,reduceCtorEq,zA,zB,zC,zD,zE,zF,zG,zH,zI,zJ, DH_app hd, DH_len, DH_len0, DH_get hd, DH_get0 hd, DH_set hd, DH_set0 hd, DH_setd, DH_die hd]
 refine W_seq ?_
 refine W_thenY (σ := List St × Int) (fun s => [(1, stsV plan), (2, vi at_), (5, .ptr M.H.length 0), (8, .ptr (M.H.length + 1) 0), (12, .ptr H0.length 0), (13, stsV s.1)]) (fun s => ⟨DH H0 d s.2 [.obj (yardC z)], M.lg⟩) (fun s => s.1.length ≤ 5) ?_ ?_
 ·cases cn with
  | false =>
   ((repeat refine Ws ?_);refine Wr ?_)
   simp (maxSteps := 1000000) only [VL,VM,↓VG,reduceIte,reduceCtorEq,zA,zB,zC,zD,zE,zF,zG,zH,zI,zJ]
   ((repeat refine Ws ?_);refine Wf (by first|rfl|simp only [EV,zF,reduceIte]) ?_)
   refine W_skip ?_
   exact ⟨rfl, rfl, (p, u4), hpl, rfl, rfl, rfl, rfl, rfl, rfl, rfl, trivial⟩
  | true =>
   ((repeat refine Ws ?_);refine Wr ?_)
   simp (maxSteps := 1000000) only [VL,VM,↓VG,reduceIte,reduceCtorEq,zA,zB,zC,zD,zE,zF,zG,zH,zI,zJ]
   apply call_eq (f := 43) (fn := Try.f43) (by kernel_rfl) (by rfl)
   ·exact once_c hd u4 2 M.lg (by omega)
   generalize castU u4 2 = u5
   generalize onceF u4 2 = oc
   simp (maxSteps := 1000000) only [VL,VM,↓VG,reduceIte,reduceCtorEq,zA,zB,zC,zD,zE,zF,zG,zH,zI,zJ]
   cases oc with
   | false =>
    ((repeat refine Ws ?_);refine Wf (by first|rfl|simp only [EV,zF,reduceIte]) ?_)
    refine W_skip ?_
    exact ⟨rfl, rfl, (p, u5), hpl, rfl, rfl, rfl, rfl, rfl, rfl, rfl, trivial⟩
   | true =>
    ((repeat refine Ws ?_);refine Wt (by first|rfl|simp only [EV,zF,reduceIte]) ?_)
    ((repeat refine Ws ?_);refine Wr ?_)
    simp (maxSteps := 1000000) only [VL,VM,↓VG,reduceIte,reduceCtorEq,zA,zB,zC,zD,zE,zF,zG,zH,zI,zJ]
    exact ⟨(bst, u5), hsv, rfl, rfl, rfl, rfl, rfl, rfl, rfl, trivial⟩
 rintro ⟨q, u6⟩ e' hq5 hS
 simp only at hq5 hS ⊢
 refine WCode.weak (e' := _) ?_ (Sub.ok hS)
 clear hS e'
 have hq7 : q.length ≤ 1000000 := by omega
 rw [tail, hlen0]
 obtain ⟨B, hB⟩ : ∃ B, B = M.H ++ VObj.obj (yardC y) :: .obj [vi s.ramp, vi s.from_] :: .obj [uv u6] :: [.obj (yardC z)] := ⟨_, rfl⟩
 have hBl : B.length = M.H.length + 4 := by rw [hB]; simp
 have B0 : ∀ L, (B ++ L)[M.H.length]? = some (.obj (yardC y)) := fun L => by rw [hB, List.append_assoc]; exact hget0 _ _
 have B1 : ∀ L, (B ++ L)[M.H.length + 1]? = some (.obj [vi s.ramp, vi s.from_]) := fun L => by rw [hB, List.append_assoc, hget]; rfl
 have B3 : ∀ L, (B ++ L)[M.H.length + 3]? = some (.obj (yardC z)) := fun L => by rw [hB, List.append_assoc, hget]; rfl
 rw [← hB]
 ((repeat refine Ws ?_);refine Wr ?_)
 simp (maxSteps := 1000000) only [VL,VM,↓VG,reduceIte,reduceCtorEq,zA,zB,zC,zD,zE,zF,zG,zH,zI,zJ]
 apply call_eq (f := 41) (fn := Try.f41) (by kernel_rfl) (by rfl)
 ·exact copySlots_own q _ hq7
 simp (maxSteps := 1000000) only [VL,VM,↓VG,reduceIte,reduceCtorEq,zA,zB,zC,zD,zE,zF,zG,zH,zI,zJ]
 refine W_seq ?_
 refine W_thenY (σ := List St) (fun q2 => [(1, stsV plan), (5, .ptr M.H.length 0), (12, .ptr (M.H.length + 3) 0), (13, stsV q), (17, .bf B.length 0 q2.length 2)]) (fun q2 => ⟨B ++ [.obj (stC q2)], M.lg⟩) (fun q2 => q2.length = q.length) ?_ ?_
 ·rcases List.eq_nil_or_concat q with rfl | ⟨q0, z0, rfl⟩
  ·((repeat refine Ws ?_);refine Wr ?_)
   simp (maxSteps := 1000000) only [VL,VM,↓VG,reduceIte,reduceCtorEq,zA,zB,zC,zD,zE,zF,zG,zH,zI,zJ, show ((0 : Int) < (([] : List St).length : Int)) = False from eq_false (by simp), show ((0 : Int) < ((0 : Nat) : Int)) = False from eq_false (by omega)]
   ((repeat refine Ws ?_);refine Wf (by first|rfl|simp only [EV,zF,reduceIte]) ?_)
   refine W_skip ?_
   exact ⟨rfl, rfl, [], rfl, rfl, rfl, rfl, rfl, rfl, rfl, trivial⟩
  ·rw [List.concat_eq_append] at *
   generalize hqq : q0 ++ [z0] = q at *
   have hql : 0 < q.length := by rw [← hqq]; simp
   have c0 : ((0 : Int) < (q.length : Int)) = True := eq_true (by omega)
   obtain ⟨hk0, hk1⟩ := bringF_bd at_ q.length (by omega)
   ((repeat refine Ws ?_);refine Wr ?_)
   simp (maxSteps := 1000000) only [VL,VM,↓VG,reduceIte,reduceCtorEq,zA,zB,zC,zD,zE,zF,zG,zH,zI,zJ, c0]
   ((repeat refine Ws ?_);refine Wt (by first|rfl|simp only [EV,zF,reduceIte]) ?_)
   (repeat refine Ws ?_)
   refine W_drawP T_ok [] (by kernel_rfl) (by kernel_rfl) ?_
   generalize hi : mkPlan _ = infs
   cbv at hi
   subst hi
   replace hk0 : 0 ≤ bringF at_ (q.length : Int) := hk0
   replace hk1 : bringF at_ (q.length : Int) < (q.length : Int) := hk1
   simp (maxSteps := 1000000) only [VL,VM,↓VG,reduceIte,reduceCtorEq,zA,zB,zC,zD,zE,zF,zG,zH,zI,zJ, B1]
   apply call_d (f := 44) (fn := Try.f44) (by kernel_rfl) (by rfl)
   ·exact bring_v at_ (q.length : Int) _ (by omega)
   generalize bringF at_ (q.length : Int) = kk at hk0 hk1 ⊢
   obtain ⟨k, rfl⟩ : ∃ k : Nat, kk = (k : Int) := ⟨kk.toNat, by omega⟩
   have hkl : k < q.length := by omega
   have g2 := stC_get0 q k s hkl
   have g3 : (k < q.length) = True := eq_true hkl
   have g4 := stC_len q
   have g5 : (k * 2 + 2 ≤ q.length * 2) = True := eq_true (by omega)
   simp (maxSteps := 1000000) only [VL,VM,↓VG,reduceIte,reduceCtorEq,zA,zB,zC,zD,zE,zF,zG,zH,zI,zJ, B1, g3, g4, g5, g2]
   exact ⟨q.set k s, by simp, rfl, rfl, rfl, rfl, rfl, by simp [get_cons], trivial⟩
 rintro q2 e' hq2 hS
 refine WCode.weak (e' := _) ?_ (Sub.ok hS)
 clear hS e'
 (repeat refine Ws ?_)
 refine W_frzT (t := 17) (id := B.length) (n := q2.length) (k := 2) (xs := q2.map stP) ?_ (by rfl) (by simp) (by simp) ?_
 ·rw [hget0, flat_sts]; rfl
 have eS : (B ++ [VObj.obj (stC q2)]).set B.length .dead = B ++ [.dead] := by rw [hset0]; rfl
 rw [eS]
 obtain ⟨ys, hys⟩ : ∃ ys, ys = [y, z, z, z] := ⟨_, rfl⟩
 obtain ⟨ps, hps⟩ : ∃ ps, ps = [plan, q, q2, plan] := ⟨_, rfl⟩
 have ys4 : ys.length = 4 := by rw [hys]; rfl
 have ps4 : ps.length = 4 := by rw [hps]; rfl
 have hFs : ∀ x ∈ ys, ShortY x := by
  rw [hys]
  intro x hx
  simp only [List.mem_cons, List.not_mem_nil, or_false] at hx
  rcases hx with rfl | rfl | rfl | rfl
  ·exact ⟨b1, b2, b3⟩
  ·exact hsz
  ·exact hsz
  ·exact hsz
 have hPs : ∀ x ∈ ps, x.length ≤ 20 := by
  rw [hps]
  intro x hx
  simp only [List.mem_cons, List.not_mem_nil, or_false] at hx
  rcases hx with rfl | rfl | rfl | rfl
  ·exact b4
  ·omega
  ·omega
  ·exact b4
 ((repeat refine Ws ?_);refine Wr ?_)
 simp (maxSteps := 1000000) only [VL,VM,↓VG,reduceIte,reduceCtorEq,zA,zB,zC,zD,zE,zF,zG,zH,zI,zJ, B0, B3]
 ((repeat refine Ws ?_);refine Wr ?_)
 simp (maxSteps := 1000000) only [VL,VM,↓VG,reduceIte,reduceCtorEq,zA,zB,zC,zD,zE,zF,zG,zH,zI,zJ]
 have hBM : B ++ [.dead] = M.H ++ VObj.obj (yardC y) :: .obj [vi s.ramp, vi s.from_] :: .obj [uv u6] :: .obj (yardC z) :: [.dead] := by rw [hB]; simp
 rw [hBM]
 ((repeat refine Ws ?_);refine W_block ?_; (repeat refine Ws ?_)); refine W_loopS (fun s : NhA => [(18, .sf 3 (ys.map yardP)), (19, .sf 1 (ps.map stPP)), (20, vi s.i)]) (fun t => ⟨M.H ++ VObj.obj (yardC y) :: .obj [vi s.ramp, vi s.from_] :: .obj [uv u6] :: .obj (yardC z) :: t.junk, M.lg⟩) (fun s => 4 - s.i) (fun s => s.i ≤ 4) ⟨0, [.dead]⟩ (Nat.zero_le _) ⟨?_, ?_, rfl, trivial⟩ rfl ?_
 ·rw [hys]; simp [get_cons]
 ·rw [hps]; simp [get_cons]
 rintro ⟨i, junk⟩ hi
 simp only at hi
 have k1 : -9223372036854775808 ≤ (i : Int) + 1 ∧ (i : Int) + 1 < 9223372036854775808 := by omega
 ((repeat refine Ws ?_);refine W_regionE T_ok ?_; intro Kn hKn)
 rcases Nat.lt_or_ge i 4 with hlt | hge
 rotate_left
 ·have k2 : ((i : Int) < ((4 : Nat) : Int)) = False := eq_false (by omega)
  ((simp (maxSteps := 1000000) only [VL,VM,↓VG,reduceIte,reduceCtorEq,zA,zB,zC,zD,zE,zF,zG,zH,zI,zJ, List.length_map, ys4, k2]); rw [hKn];clear hKn Kn;simp only [QV,reduceIte,reduceCtorEq,Nat.reduceEqDiff])
  ((repeat refine Ws ?_);refine Wf (by first|rfl|simp only [EV,zF,reduceIte]) ?_)
  (((repeat refine Ws ?_);refine W_exit ?_); simp only [QV,reduceIte,reduceCtorEq,Nat.reduceEqDiff])
  ((repeat refine Ws ?_);refine W_regionE T_ok ?_; intro Kn hKn)
  simp (maxSteps := 1000000) only [VL,VM,↓VG,reduceIte,reduceCtorEq,zA,zB,zC,zD,zE,zF,zG,zH,zI,zJ]
  apply call_eq (f := 16) (fn := Try.f16) (by kernel_rfl) (by rfl)
  ·exact awake_v _
  ((simp (maxSteps := 1000000) only [VL,VM,↓VG,reduceIte,reduceCtorEq,zA,zB,zC,zD,zE,zF,zG,zH,zI,zJ]); rw [hKn];clear hKn Kn;simp only [QV,reduceIte,reduceCtorEq,Nat.reduceEqDiff])
  (repeat refine Ws ?_)
  refine W_ret ?_
  try simp only [thenQ, blockQ]
  refine own_ret1 rfl ?_ (by rfl)
  simp only [get_cons, frz, vtup, Nat.reduceEqDiff, if_true, if_false, reduceIte]
 have k2 : ((i : Int) < ((4 : Nat) : Int)) = True := eq_true (by omega)
 have hx : ys[i]? = some (ys[i]'(by omega)) := List.getElem?_eq_getElem (by omega)
 have hw : ps[i]? = some (ps[i]'(by omega)) := List.getElem?_eq_getElem (by omega)
 obtain ⟨f1, f2, f3⟩ := hFs _ (List.getElem_mem (l := ys) (n := i) (by omega))
 have f4 := hPs _ (List.getElem_mem (l := ps) (n := i) (by omega))
 generalize ys[i]'(by omega) = Y at hx f1 f2 f3
 generalize ps[i]'(by omega) = Pl at hw f4
 have hx' := map_at (f := yardP) hx
 have hw' := map_at (f := stPP) hw
 have e1 : Y.ramps.length ≤ 1000000 := by omega
 have e2 : Y.carts.length ≤ 1000000 := by omega
 have e3 : ∀ c ∈ Y.carts, c.ramps.length ≤ 1000000 := fun c hc => by have := f3 c hc; omega
 have e4 : Pl.length ≤ 1000000 := by omega
 have e5 : (awayT Y Pl).length ≤ 1000000 := by have := awayT_len Y Pl; omega
 clear hx hw hFs hPs
 ((simp (maxSteps := 1000000) only [VL,VM,↓VG,reduceIte,reduceCtorEq,zA,zB,zC,zD,zE,zF,zG,zH,zI,zJ, List.length_map, ys4, k2]); rw [hKn];clear hKn Kn;simp only [QV,reduceIte,reduceCtorEq,Nat.reduceEqDiff])
 ((repeat refine Ws ?_);refine Wt (by first|rfl|simp only [EV,zF,reduceIte]) ?_)
 (((repeat refine Ws ?_);refine W_skip ?_); simp only [QV,reduceIte,reduceCtorEq,Nat.reduceEqDiff])
 ((repeat refine Ws ?_);refine W_block ?_)
 ·skip
  (repeat refine Ws ?_)
  refine W_drawE T_ok [VObj.obj [.sf 0 [], .sf 0 [], vi 0]] (by kernel_rfl) (by kernel_rfl) ?_
  intro Kn hKn
  generalize hi : mkPlan _ = infs
  cbv at hi
  subst hi
  simp (maxSteps := 1000000) only [VL,VM,↓VG,reduceIte,reduceCtorEq,zA,zB,zC,zD,zE,zF,zG,zH,zI,zJ, hx', hw']
  apply call_d (f := 20) (fn := Try.f20) (by kernel_rfl) (by rfl)
  ·exact copyYard_v Y _ e1 e2 e3
  simp (maxSteps := 1000000) only [VL,VM,↓VG,reduceIte,reduceCtorEq,zA,zB,zC,zD,zE,zF,zG,zH,zI,zJ, hx', hw']
  apply call_d (f := 41) (fn := Try.f41) (by kernel_rfl) (by rfl)
  ·exact copySlots_v Pl _ e4
  ((simp (maxSteps := 1000000) only [VL,VM,↓VG,reduceIte,reduceCtorEq,zA,zB,zC,zD,zE,zF,zG,zH,zI,zJ, hx', hw']); rw [hKn];clear hKn Kn;simp only [QV,reduceIte,reduceCtorEq,Nat.reduceEqDiff])
  ((repeat refine Ws ?_);refine W_regionE T_ok ?_; intro Kn hKn)
  simp (maxSteps := 1000000) only [VL,VM,↓VG,reduceIte,reduceCtorEq,zA,zB,zC,zD,zE,zF,zG,zH,zI,zJ]
  apply call_eq (f := 39) (fn := Try.f39) (by kernel_rfl) (by rfl)
  ·exact pholds_v Y Pl _ e1 e2 e3 e4
  ((simp (maxSteps := 1000000) only [VL,VM,↓VG,reduceIte,reduceCtorEq,zA,zB,zC,zD,zE,zF,zG,zH,zI,zJ]); rw [hKn];clear hKn Kn;simp only [QV,reduceIte,reduceCtorEq,Nat.reduceEqDiff])
  (repeat refine Ws ?_)
  refine W_drawE T_ok [] (by kernel_rfl) (by kernel_rfl) ?_
  intro Kn hKn
  generalize hi : mkPlan _ = infs
  cbv at hi
  subst hi
  simp (maxSteps := 1000000) only [VL,VM,↓VG,reduceIte,reduceCtorEq,zA,zB,zC,zD,zE,zF,zG,zH,zI,zJ, hx', hw']
  apply call_d (f := 45) (fn := Try.f45) (by kernel_rfl) (by rfl)
  ·exact rholds_v Y Pl _ e1 e2 e3 e4
  ((simp (maxSteps := 1000000) only [VL,VM,↓VG,reduceIte,reduceCtorEq,zA,zB,zC,zD,zE,zF,zG,zH,zI,zJ, hx', hw']); rw [hKn];clear hKn Kn;simp only [QV,reduceIte,reduceCtorEq,Nat.reduceEqDiff])
  ((repeat refine Ws ?_);refine W_regionE T_ok ?_; intro Kn hKn)
  simp (maxSteps := 1000000) only [VL,VM,↓VG,reduceIte,reduceCtorEq,zA,zB,zC,zD,zE,zF,zG,zH,zI,zJ]
  apply call_eq (f := 46) (fn := Try.f46) (by kernel_rfl) (by rfl)
  ·exact away_v Y Pl _ e1 e2 e3 e4
  rw [awayV_T]
  ((simp (maxSteps := 1000000) only [VL,VM,↓VG,reduceIte,reduceCtorEq,zA,zB,zC,zD,zE,zF,zG,zH,zI,zJ]); rw [hKn];clear hKn Kn;simp only [QV,reduceIte,reduceCtorEq,Nat.reduceEqDiff])
  (repeat refine Ws ?_)
  refine W_drawE T_ok [] (by kernel_rfl) (by kernel_rfl) ?_
  intro Kn hKn
  generalize hi : mkPlan _ = infs
  cbv at hi
  subst hi
  simp (maxSteps := 1000000) only [VL,VM,↓VG,reduceIte,reduceCtorEq,zA,zB,zC,zD,zE,zF,zG,zH,zI,zJ, hx', hw']
  apply call_d (f := 47) (fn := Try.f47) (by kernel_rfl) (by rfl)
  ·exact raway_v Y Pl _ e1 e2 e3 e4
  rw [awayV_T]
  ((simp (maxSteps := 1000000) only [VL,VM,↓VG,reduceIte,reduceCtorEq,zA,zB,zC,zD,zE,zF,zG,zH,zI,zJ, hx', hw']); rw [hKn];clear hKn Kn;simp only [QV,reduceIte,reduceCtorEq,Nat.reduceEqDiff])
  have es1 := sameSpans_v (awayT Y Pl) (awayT Y Pl)
  have es2 := sameSlots_v Pl Pl
  rw [decide_eq_true rfl] at es1 es2
  (repeat refine Ws ?_)
  refine W_drawE T_ok [] (by kernel_rfl) (by kernel_rfl) ?_
  intro Kn hKn
  generalize hi : mkPlan _ = infs
  cbv at hi
  subst hi
  simp (maxSteps := 1000000) only [VL,VM,↓VG,reduceIte,reduceCtorEq,zA,zB,zC,zD,zE,zF,zG,zH,zI,zJ, hx', hw']
  apply call_d (f := 48) (fn := Try.f48) (by kernel_rfl) (by rfl)
  ·exact check_v Y _ e1 e2 e3
  simp (maxSteps := 1000000) only [VL,VM,↓VG,reduceIte,reduceCtorEq,zA,zB,zC,zD,zE,zF,zG,zH,zI,zJ, hx', hw']
  apply call_d (f := 15) (fn := Try.f15) (by kernel_rfl) (by rfl)
  ·exact rcheck_v Y _ e1 e2 e3
  simp (maxSteps := 1000000) only [VL,VM,↓VG,reduceIte,reduceCtorEq,zA,zB,zC,zD,zE,zF,zG,zH,zI,zJ, hx', hw', eq_self, decide_true, Bool.not_true]
  apply call_d (f := 49) (fn := Try.f49) (by kernel_rfl) (by rfl)
  ·exact checkPlan_v Y Pl _ e1 e2 e3 e4
  simp (maxSteps := 1000000) only [VL,VM,↓VG,reduceIte,reduceCtorEq,zA,zB,zC,zD,zE,zF,zG,zH,zI,zJ, hx', hw', eq_self, decide_true, Bool.not_true]
  apply call_d (f := 50) (fn := Try.f50) (by kernel_rfl) (by rfl)
  ·exact rcheckPlan_v Y Pl _ e1 e2 e3 e4
  simp (maxSteps := 1000000) only [VL,VM,↓VG,reduceIte,reduceCtorEq,zA,zB,zC,zD,zE,zF,zG,zH,zI,zJ, hx', hw', eq_self, decide_true, Bool.not_true]
  apply call_d (f := 51) (fn := Try.f51) (by kernel_rfl) (by rfl)
  ·exact es1 _ e5
  ((simp (maxSteps := 1000000) only [VL,VM,↓VG,reduceIte,reduceCtorEq,zA,zB,zC,zD,zE,zF,zG,zH,zI,zJ, hx', hw', eq_self, decide_true, Bool.not_true]); rw [hKn];clear hKn Kn;simp only [QV,reduceIte,reduceCtorEq,Nat.reduceEqDiff])
  ((repeat refine Ws ?_);refine Wf (by first|rfl|simp only [EV,zF,reduceIte]) ?_)
  (((repeat refine Ws ?_);refine W_skip ?_); simp only [QV,reduceIte,reduceCtorEq,Nat.reduceEqDiff])
  (repeat refine Ws ?_)
  refine W_drawE T_ok [] (by kernel_rfl) (by kernel_rfl) ?_
  intro Kn hKn
  generalize hi : mkPlan _ = infs
  cbv at hi
  subst hi
  simp (maxSteps := 1000000) only [VL,VM,↓VG,reduceIte,reduceCtorEq,zA,zB,zC,zD,zE,zF,zG,zH,zI,zJ, hx', hw']
  apply call_d (f := 24) (fn := Try.f24) (by kernel_rfl) (by rfl)
  ·exact sameYards_v Y _ e1 e2 e3
  simp (maxSteps := 1000000) only [VL,VM,↓VG,reduceIte,reduceCtorEq,zA,zB,zC,zD,zE,zF,zG,zH,zI,zJ, hx', hw', eq_self, decide_true, Bool.not_true]
  apply call_d (f := 23) (fn := Try.f23) (by kernel_rfl) (by rfl)
  ·exact es2 _ e4
  ((simp (maxSteps := 1000000) only [VL,VM,↓VG,reduceIte,reduceCtorEq,zA,zB,zC,zD,zE,zF,zG,zH,zI,zJ, hx', hw', eq_self, decide_true, Bool.not_true]); rw [hKn];clear hKn Kn;simp only [QV,reduceIte,reduceCtorEq,Nat.reduceEqDiff])
  ((repeat refine Ws ?_);refine Wf (by first|rfl|simp only [EV,zF,reduceIte]) ?_)
  (((repeat refine Ws ?_);refine W_skip ?_); simp only [QV,reduceIte,reduceCtorEq,Nat.reduceEqDiff])
  ((repeat refine Ws ?_);refine W_regionE T_ok ?_; intro Kn hKn)
  ((simp (maxSteps := 1000000) only [VL,VM,↓VG,reduceIte,reduceCtorEq,zA,zB,zC,zD,zE,zF,zG,zH,zI,zJ, k1]); rw [hKn];clear hKn Kn;simp only [QV,reduceIte,reduceCtorEq,Nat.reduceEqDiff])
  refine LoopK.mk ⟨i + 1, junk ++ [VObj.obj (yardC Y)]⟩ (by simp only; omega) (by simp only; omega) ⟨rfl, rfl, rfl, trivial⟩ rfl
end Go.Proofs.Ythcicaelnchfdaa.Vm
