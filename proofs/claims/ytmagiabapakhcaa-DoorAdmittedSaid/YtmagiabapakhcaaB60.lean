/- A part of the proofs about the chapter of the doors; it states no condition of its own. -/
import Derived.Test.YtmagiabapakhcaaB34
import Derived.Test.YtmagiabapakhcaaB50
import Derived.Test.YtmagiabapakhcaaB58
import Derived.Test.YtmagiabapakhcaaB59
set_option linter.unusedVariables false
set_option linter.unusedSimpArgs false
open Int renaming reduceLE → zA, reduceLT → zB, reduceToNat → zC, reduceNeg → zD
open Nat renaming reduceLT → zE, reduceEqDiff → zF, reduceAdd → zG, reduceSub → zH, reduceMul → zI, reduceLeDiff → zJ
/- The law of how many are admitted, on values. (Vm) -/
namespace Go.Proofs.Ytmagiabapakhcaa.Vm
open Go Go.Proofs
attribute [local irreducible] castF castU fromF fromU oneF oneU onceF
theorem cellsDo_len : ∀ ds : List Do, (cellsR (ds.map doP)).length = ds.length * 3
 | [] => rfl
 | x :: ds => by
  have e : ∀ x ds, cellsR ((x :: ds).map doP) = vi x.a :: vi x.b :: vi x.flow :: cellsR (ds.map doP) := fun x ds => rfl
  rw [e]
  simp only [List.length_cons, cellsDo_len ds]
  omega
theorem cellsD_put : ∀ (ds : List Do) (i : Nat) (d : Do) (f : Int), ds[i]? = some d → (cellsR (ds.map doP)).take (i * 3 + 2) ++ vi f :: (cellsR (ds.map doP)).drop (i * 3 + 3) = cellsR ((ds.set i { d with flow := f }).map doP)
 | [], i, d, f, h => by simp at h
 | x :: ds, 0, d, f, h => by
  simp only [List.getElem?_cons_zero, Option.some.injEq] at h
  subst h
  simp [cellsR, rowsV]
 | x :: ds, i + 1, d, f, h => by
  rw [List.getElem?_cons_succ] at h
  have ih := cellsD_put ds i d f h
  have e : ∀ x ds, cellsR ((x :: ds).map doP) = vi x.a :: vi x.b :: vi x.flow :: cellsR (ds.map doP) := fun x ds => rfl
  rw [List.set_cons_succ, e, e, show (i + 1) * 3 + 2 = i * 3 + 2 + 1 + 1 + 1 by omega, show (i + 1) * 3 + 3 = i * 3 + 3 + 1 + 1 + 1 by omega]
  simp only [List.take_succ_cons, List.drop_succ_cons, List.cons_append]
  rw [ih]
theorem no_counts {h : Ho} (V : HV h) (ht : h.ticks ≤ 0) : h.counts = [] := List.eq_nil_iff_forall_not_mem.2 fun c hc => by
 have := V.counts c hc
 have a := this.t0
 have b := this.t1
 omega
theorem HV.doors_set {h : Ho} (V : HV h) (ht : h.ticks ≤ 0) {ds : List Do} (hl : ds.length = h.doors.length) (hd : ∀ d ∈ ds, DoV h.holds.length d) : HV { h with doors := ds } :=
 ⟨V.n0, V.n1, V.holds, by rw [hl]; exact V.d1, hd, V.first, V.t0, V.t1, V.c1, fun c hc => (by rw [no_counts V ht] at hc; cases hc), V.keys⟩
theorem fn_call4 {f : Nat} {fn : Func} {args : List VV} {M : Mem} {Q : VV → Mem → Prop} (hf : T4.fn f = some fn) (hk : T4.keeps f = true) (h : VC Try.prog f args M Q) : VCall Try.prog (.fn (.func f) [] []) args M Q :=
 VCall_fn T4_ok hf (by
  have : (sarg T4 f) = id := funext fun v => by simp [sarg, hk]
  simpa [this] using h)
theorem nil_rowP {w : World} {I : Nat → Nat → Prop} {v : Value} (h : RepP w I v (.sl 1 [[.sl 0 []]])) : RepP w I v (.sl 1 [[.sl 1 []]]) := by
 cases h with
 | sl A' c _ b off _ g q1 q2 q3 q4 q5 q6 q7 =>
  have key : ∀ (i : Nat) (x : List PV) (j : Nat) (u : PV), ([[PV.sl 1 []]] : List (List PV))[i]? = some x → x[j]? = some u → i = 0 ∧ j = 0 ∧ u = .sl 1 [] := fun i x j u hx hu => by
   rcases i with _ | i
   ·simp only [List.getElem?_cons_zero, Option.some.injEq] at hx
    subst hx
    rcases j with _ | j
    ·simp only [List.getElem?_cons_zero, Option.some.injEq] at hu
     exact ⟨rfl, rfl, hu.symm⟩
    ·simp at hu
   ·simp at hx
  refine .sl A' c 1 b off [[.sl 1 []]] g q1 q2 (fun x hx => by simp at hx; subst hx; rfl) (fun _ => q4 (by simp)) (fun i x j u hx hu => ?_) (fun i x j u hx hu => ?_) (fun i x j u hx hu => ?_)
  ·obtain ⟨rfl, rfl, rfl⟩ := key i x j u hx hu
   exact q5 0 _ 0 _ rfl rfl
  ·obtain ⟨rfl, rfl, rfl⟩ := key i x j u hx hu
   exact q6 0 _ 0 _ rfl rfl
  ·obtain ⟨rfl, rfl, rfl⟩ := key i x j u hx hu
   have hv := q7 0 _ 0 _ rfl rfl
   generalize g 0 0 = gv at hv ⊢
   cases hv with
   | sl B c2 _ b2 off2 _ g2 r1 r2 r3 r4 r5 r6 r7 => exact .sl B c2 1 b2 off2 [] g2 r1 r2 (fun x hx => by cases hx) r4 (fun i x j u hx => by simp at hx) (fun i x j u hx => by simp at hx) (fun i x j u hx => by simp at hx)
theorem nil_row {w : World} {K : Nat → Option Nat} {H : List VObj} {v : Value} (h : RepV w K H v (.sf 1 [[.sl 0 []]])) : RepV w K H v (tabV [[]]) := by
 generalize hx : ([[PV.sl 0 []]] : List (List PV)) = xs at h
 cases h with
 | sf A _ _ hp =>
  subst hx
  exact .p _ _ (nil_rowP hp)
theorem so_tab {w : World} {K : Nat → Option Nat} {H : List VObj} {v : Value} {g : Nat} {l : List (List Int)} (h : RepV w K H v (.so g 1 (l.map rowP))) : RepV w K H v (tabV l) := by
 cases h with
 | so _ _ _ _ hp _ => exact .p _ _ hp
structure AsSt where
 i : Nat
 junk : List VObj
structure AfSt where
 i : Nat
 u : Int
 ds : List Do
set_option maxHeartbeats 8000000 in
set_option maxRecDepth 100000 in
theorem admitted_law_v (xs : List Int) (M : Mem) (hl : xs.length ≤ maxLen) : VC Try.prog 11 [intsV xs] M (fun r M' => M' = M ∧ r = vb true) := by
 refine VC_own' T_ok (f := 11) (fn := Try.f11) (by kernel_rfl) rfl Try.ntmps11 (by rfl) (by rfl) ?_
 ((repeat refine Ws ?_);refine Wr ?_)
 simp (maxSteps := 1000000) only [VL,VM,↓VG,reduceIte,reduceCtorEq,zA,zB,zC,zD,zE,zF,zG,zH,zI,zJ]
 ((repeat refine Ws ?_);refine Wr ?_)
 simp (maxSteps := 1000000) only [VL,VM,↓VG,reduceIte,reduceCtorEq,zA,zB,zC,zD,zE,zF,zG,zH,zI,zJ]
 apply call_eq (f := 20) (fn := Try.f20) (by kernel_rfl) (by rfl)
 ·exact dieOf_v xs M hl
 obtain ⟨H0, hH0⟩ : ∃ H0, H0 = M.H ++ [VObj.dead] := ⟨_, rfl⟩
 obtain ⟨d, hdd⟩ : ∃ d, d = M.H.length := ⟨_, rfl⟩
 have hd : d < H0.length := by rw [hH0, hdd]; simp
 have hlen0 : H0.length = M.H.length + 1 := by rw [hH0]; simp
 rw [← hH0, ← hdd]
 have tail : ∀ u L, DH H0 d u L = M.H ++ (.obj [uv u] :: L) := fun u L => by rw [hH0, hdd]; exact DH_tail M u L
 generalize dieU xs = u0
 simp (maxSteps := 1000000) only [VL,VM,↓VG,reduceIte,reduceCtorEq,zA,zB,zC,zD,zE,zF,zG,zH,zI,zJ]
 ((repeat refine Ws ?_);refine Wr ?_)
 simp (maxSteps := 1000000) only [VL,VM,↓VG,reduceIte,reduceCtorEq,zA,zB,zC,zD,zE,zF,zG,zH,zI,zJ]
 refine fn_call (f := 19) (fn := Try.f19) (by kernel_rfl) (by rfl) ?_
 refine (houseOf_own (M := ⟨DH H0 d u0 [], M.lg⟩) (DH_die hd) 3 4 0 6 (by omega) (by omega) (by omega) (by omega)).mono ?_
 rintro _ _ ⟨h0, ts, u1, jk, rfl, rfl, m, hw⟩
 rw [DH_setd, DH_len0]
 rw [DH_app hd]
 simp (maxSteps := 1000000) only [VL,VM,↓VG,reduceIte,reduceCtorEq,zA,zB,zC,zD,zE,zF,zG,zH,zI,zJ, DH_app hd, DH_len, DH_len0, DH_get hd, DH_get0 hd, DH_set hd, DH_set0 hd, DH_setd, DH_die hd]
 obtain ⟨Z, hZ1, hZ2⟩ := addLg_Y (H0.length + (jk.length + 5)) [H0.length + 2, H0.length + 3, H0.length + 4] M.lg
 generalize addLg (H0.length + (jk.length + 5)) [H0.length + 2, H0.length + 3, H0.length + 4] M.lg = lgB at hZ1 ⊢
 obtain ⟨n, hn⟩ : ∃ n, n = H0.length := ⟨_, rfl⟩
 obtain ⟨b, hb⟩ : ∃ b, b = n + (jk.length + 5) := ⟨_, rfl⟩
 obtain ⟨B, hB⟩ : ∃ B : Int → VObj → VObj → VObj → List VV → List VObj → List VObj, B = fun u I D C x junk => DH H0 d u (.dead :: .dead :: I :: D :: C :: (jk ++ (.obj x :: junk))) := ⟨_, rfl⟩
 have gB : ∀ u I D C x junk, (B u I D C x junk)[b]? = some (.obj x) := fun u I D C x junk => by
  rw [hB, hb, hn]
  simp only
  rw [DH_get hd, List.getElem?_cons_succ, List.getElem?_cons_succ, List.getElem?_cons_succ, List.getElem?_cons_succ, List.getElem?_cons_succ, hget0]; rfl
 have sB : ∀ u I D C x junk x', (B u I D C x junk).set b (.obj x') = B u I D C x' junk := fun u I D C x junk x' => by
  rw [hB, hb, hn]
  simp only
  rw [DH_set hd, List.set_cons_succ, List.set_cons_succ, List.set_cons_succ, List.set_cons_succ, List.set_cons_succ, hset0]; rfl
 have gC : ∀ u I D C x junk, (B u I D C x junk)[n + 4]? = some C := fun u I D C x junk => by
  rw [hB, hn]
  simp only
  rw [DH_get hd]; rfl
 have sC : ∀ u I D C x junk C', (B u I D C x junk).set (n + 4) C' = B u I D C' x junk := fun u I D C x junk C' => by
  rw [hB, hn]
  simp only
  rw [DH_set hd]; rfl
 have gI : ∀ u I D C x junk, (B u I D C x junk)[n + 2]? = some I := fun u I D C x junk => by
  rw [hB, hn]
  simp only
  rw [DH_get hd]; rfl
 have sI : ∀ u I D C x junk I', (B u I D C x junk).set (n + 2) I' = B u I' D C x junk := fun u I D C x junk C' => by
  rw [hB, hn]
  simp only
  rw [DH_set hd]; rfl
 have gD : ∀ u I D C x junk, (B u I D C x junk)[n + 3]? = some D := fun u I D C x junk => by
  rw [hB, hn]
  simp only
  rw [DH_get hd]; rfl
 have sD : ∀ u I D C x junk D', (B u I D C x junk).set (n + 3) D' = B u I D' C x junk := fun u I D C x junk C' => by
  rw [hB, hn]
  simp only
  rw [DH_set hd]; rfl
 have eB : ∀ u I D C x, ∃ L, B u I D C x [] = M.H ++ L := fun u I D C x => ⟨_, by rw [hB]; exact tail _ _⟩
 have lB : ∀ u I D C x, (B u I D C x []).length = b + 1 := fun u I D C x => by rw [hB, hb, hn]; simp only; rw [DH_len]; simp; omega
 have e0 : DH H0 d u1 (VObj.dead :: VObj.dead :: VObj.obj (rowsV (List.map intP h0.holds)).flatten :: VObj.obj (rowsV (List.map doP h0.doors)).flatten :: VObj.obj (rowsV (List.map coP h0.counts)).flatten :: (jk ++ [VObj.obj (bufH h0 (H0.length + 2))])) = B u1 (.obj (cellsR (h0.holds.map intP))) (.obj (cellsR (h0.doors.map doP))) (.obj (cellsR (h0.counts.map coP))) (bufH h0 (n + 2)) [] := by rw [hB, hn]
 rw [e0, ← hn, ← hb]
 have cB : ∀ u I D C x junk lg k, 1 ≤ k ∧ k ≤ 1000 → VC Try.prog 45 [.ptr d 0, vi k] ⟨B u I D C x junk, lg⟩ (fun r M' => M' = ⟨B (castU u k) I D C x junk, lg⟩ ∧ r = vi (castF u k)) := fun u I D C x junk lg k hk => by rw [hB]; exact cast_c hd u k lg (by omega)
 have mV := m.V
 have mt := m.t
 have d5 := mV.d1
 have hold6' := m.holds
 clear e0
 ((repeat refine Ws ?_);refine Wr ?_)
 simp (maxSteps := 1000000) only [VL,VM,↓VG,reduceIte,reduceCtorEq,zA,zB,zC,zD,zE,zF,zG,zH,zI,zJ]
 ((repeat refine Ws ?_);refine W_block ?_; (repeat refine Ws ?_)); refine W_loopS (fun s : AfSt => [(3, .ptr d 0), (4, .ptr b 0), (6, vi s.i)]) (fun s => ⟨B s.u (.obj (cellsR (h0.holds.map intP))) (.obj (cellsR (s.ds.map doP))) (.obj (cellsR (h0.counts.map coP))) (bufH h0 (n + 2)) [], lgB⟩) (fun s => h0.doors.length - s.i) (fun s => s.i ≤ h0.doors.length ∧ s.ds.length = h0.doors.length ∧ ∀ x ∈ s.ds, DoV h0.holds.length x) ⟨0, u1, h0.doors⟩ ⟨Nat.zero_le _, rfl, mV.doors⟩ ⟨rfl, rfl, rfl, trivial⟩ rfl ?_
 rintro ⟨i, u2, ds⟩ ⟨hi, hdl, hdv⟩
 simp only at hi hdl hdv
 have k1 : -9223372036854775808 ≤ (i : Int) + 1 ∧ (i : Int) + 1 < 9223372036854775808 := by omega
 ((repeat refine Ws ?_);refine Wr ?_)
 rcases Nat.lt_or_ge i h0.doors.length with hlt | hge
 ·have k2 : ((i : Int) < (h0.doors.length : Int)) = True := eq_true (by omega)
  have hx : ds[i]? = some (ds[i]'(by omega)) := List.getElem?_eq_getElem (by omega)
  have hv := hdv _ (List.getElem_mem (l := ds) (n := i) (by omega))
  generalize ds[i]'(by omega) = dd at hx hv
  have c1 := castF_range (u := u2) (n := 4) (by omega)
  have hc1 := cB u2 (.obj (cellsR (h0.holds.map intP))) (.obj (cellsR (ds.map doP))) (.obj (cellsR (h0.counts.map coP))) (bufH h0 (n + 2)) [] lgB 4 (by omega)
  generalize castF u2 4 = f at c1 hc1
  generalize castU u2 4 = u3 at hc1
  have hput := cellsD_put ds i dd f hx
  have hcl := cellsDo_len ds
  rw [hdl] at hcl
  have k5 : (i < h0.doors.length) = True := eq_true hlt
  have k6 : (i * 3 + 2 + 1 ≤ h0.doors.length * 3) = True := eq_true (by omega)
  generalize cellsR (h0.holds.map intP) = II at hc1 ⊢
  generalize cellsR (h0.counts.map coP) = CC at hc1 ⊢
  generalize cellsR (ds.map doP) = DD at hc1 hput hcl ⊢
  simp (maxSteps := 1000000) only [VL,VM,↓VG,reduceIte,reduceCtorEq,zA,zB,zC,zD,zE,zF,zG,zH,zI,zJ, gB, k2]
  ((repeat refine Ws ?_);refine Wt (by first|rfl|simp only [EV,zF,reduceIte]) ?_)
  ((repeat refine Ws ?_);refine W_skip ?_)
  simp (maxSteps := 1000000) only [VL,VM,↓VG,reduceIte,reduceCtorEq,zA,zB,zC,zD,zE,zF,zG,zH,zI,zJ]
  ((repeat refine Ws ?_);refine W_block ?_)
  (repeat refine Ws ?_)
  refine W_drawP T_ok [] (by kernel_rfl) (by kernel_rfl) ?_
  generalize hi : mkPlan _ = infs
  cbv at hi
  subst hi
  simp (maxSteps := 1000000) only [VL,VM,↓VG,reduceIte,reduceCtorEq,zA,zB,zC,zD,zE,zF,zG,zH,zI,zJ, gB, gD, sD]
  apply call_d (f := 45) (fn := Try.f45) (by kernel_rfl) (by rfl)
  ·exact hc1
  simp (maxSteps := 1000000) only [VL,VM,↓VG,reduceIte,reduceCtorEq,zA,zB,zC,zD,zE,zF,zG,zH,zI,zJ, gB, gD, sD, k5, k6, hcl]
  rw [hput]
  ((repeat refine Ws ?_);refine Wr ?_)
  simp (maxSteps := 1000000) only [VL,VM,↓VG,reduceIte,reduceCtorEq,zA,zB,zC,zD,zE,zF,zG,zH,zI,zJ, k1]
  refine LoopK.mk ⟨i + 1, u3, ds.set i { dd with flow := f }⟩ (by simp only; omega) ⟨by simp only; omega, by simp only [List.length_set]; exact hdl, fun y hy => ?_⟩ ⟨rfl, rfl, rfl, trivial⟩ rfl
  rcases List.mem_or_eq_of_mem_set hy with q | rfl
  ·exact hdv y q
  ·exact ⟨hv.a0, hv.a1, hv.b0, hv.b1, hv.ne, by simp only; omega, by simp only; omega⟩
 have k2 : ((i : Int) < (h0.doors.length : Int)) = False := eq_false (by omega)
 simp (maxSteps := 1000000) only [VL,VM,↓VG,reduceIte,reduceCtorEq,zA,zB,zC,zD,zE,zF,zG,zH,zI,zJ, gB, k2]
 ((repeat refine Ws ?_);refine Wf (by first|rfl|simp only [EV,zF,reduceIte]) ?_)
 ((repeat refine Ws ?_);refine W_exit ?_)
 simp (maxSteps := 1000000) only [VL,VM,↓VG,reduceIte,reduceCtorEq,zA,zB,zC,zD,zE,zF,zG,zH,zI,zJ]
 clear k1 k2 hi hge
 obtain ⟨h, hh⟩ : ∃ h : Ho, h = { h0 with doors := ds } := ⟨_, rfl⟩
 have hV : HV h := by rw [hh]; exact HV.doors_set mV mt hdl hdv
 have e1 : h0.holds = h.holds := by rw [hh]
 have e2 : ds = h.doors := by rw [hh]
 have e3 : h0.counts = h.counts := by rw [hh]
 have e4 : h0.first = h.first := by rw [hh]
 have e5 : h0.ticks = h.ticks := by rw [hh]
 have hdl2 : h0.doors.length = h.doors.length := by rw [← hdl, e2]
 rw [show bufH h0 (n + 2) = bufH h (n + 2) by unfold bufH; rw [hdl2, e1, e3, e4, e5]]
 rw [e1, e2, e3]
 refine W_frz1 (id := n + 2) (n := h.holds.length) (k := 1) (o := b) (j := 0) (xs := h.holds.map intP) (by rw [gI]; simp [cellsR, rowsV, List.map_flatten]) (gB _ _ _ _ _ _) rfl (by simp) (by rw [List.length_map]) (by omega) ?_
 simp only [sI, sB, List.set_cons_zero]
 refine W_frz1 (id := n + 3) (n := h.doors.length) (k := 3) (o := b) (j := 1) (xs := h.doors.map doP) (by rw [gD]; simp [cellsR, rowsV, List.map_flatten]) (gB _ _ _ _ _ _) rfl (by simp) (by rw [List.length_map]) (by omega) ?_
 simp only [sD, sB, List.set_cons_zero, List.set_cons_succ]
 refine W_frz1 (id := n + 4) (n := h.counts.length) (k := 6) (o := b) (j := 5) (xs := h.counts.map coP) (by rw [gC]; simp [cellsR, rowsV, List.map_flatten]) (gB _ _ _ _ _ _) rfl (by simp) (by rw [List.length_map]) (by omega) ?_
 simp only [sC, sB, List.set_cons_zero, List.set_cons_succ]
 obtain ⟨L5, hL5⟩ : ∃ L5, L5 = VObj.dead :: VObj.dead :: VObj.dead :: VObj.dead :: VObj.dead :: (jk ++ [VObj.obj (houseC h)]) := ⟨_, rfl⟩
 obtain ⟨H1, hH1⟩ : ∃ H1, H1 = H0 ++ L5 := ⟨_, rfl⟩
 have e9 : B u2 VObj.dead VObj.dead VObj.dead [intsV h.holds, dosV h.doors, vi h.first.lo, vi h.first.hi, vi h.ticks, cosV h.counts] [] = DH H1 d u2 [] := by rw [hB, hH1, ← DH_base, hL5]
 rw [e9]
 have e10 : ∀ u X, DH H1 d u X = DH H0 d u (L5 ++ X) := fun u X => by
  unfold DH
  rw [hH1, List.append_assoc]
 have hbx0 := gB u2 .dead .dead .dead (houseC h) []
 have hl1 : H1.length = b + 1 := by rw [hH1, hL5, hb, hn]; simp; omega
 have hbx : ∀ u X, (DH H1 d u X)[b]? = some (.obj (houseC h)) := fun u X => by
  have := gB u .dead .dead .dead (houseC h) X
  rw [hB] at this
  simp only at this
  rw [e10, hL5]
  simpa using this
 have htail : ∀ u X, ∃ L, DH H1 d u X = M.H ++ L := fun u X => ⟨_, by rw [e10]; exact tail _ _⟩
 clear hB gB sB gC sC gI sI gD sD eB lB cB hbx0 e9
 clear B
 replace hd : d < H1.length := by omega
 have ht0 : h.ticks = 0 := by have := hV.t0; omega
 have hn1 := hV.n1
 have hd1 := hV.d1
 have hc1 := hV.c1
 have hold6 : ∀ n ∈ h.holds, n ≤ 6 := fun n hn => hold6' n (by rw [e1]; exact hn)
 clear e1 e2 e3 e4 e5 hh hdl hdv hdl2 mV mt m hw e10 hL5 tail
 ((repeat refine Ws ?_);refine Wr ?_)
 simp (maxSteps := 1000000) only [VL,VM,↓VG,reduceIte,reduceCtorEq,zA,zB,zC,zD,zE,zF,zG,zH,zI,zJ, DH_app hd, DH_len, DH_len0, DH_get hd, DH_get0 hd, DH_set hd, DH_set0 hd, DH_setd, DH_die hd, hbx]
 refine fn_call (f := 29) (fn := Try.f29) (by kernel_rfl) (by rfl) ?_
 refine (shutOf_v hd u2 lgB h (by omega)).mono ?_
 rintro _ _ ⟨rfl, rfl⟩
 obtain ⟨hs1, hs2, hs3⟩ := shut_bd u2 h.doors.length
 have hs4 := shut_ok u2 h.doors.length
 generalize (shutSt u2 h.doors.length).1 = u3
 generalize (shutSt u2 h.doors.length).2 = shut at hs1 hs2 hs3 hs4 ⊢
 simp (maxSteps := 1000000) only [VL,VM,↓VG,reduceIte,reduceCtorEq,zA,zB,zC,zD,zE,zF,zG,zH,zI,zJ, DH_app hd, DH_len, DH_len0, DH_get hd, DH_get0 hd, DH_set hd, DH_set0 hd, DH_setd, DH_die hd]
 have ct := castF_range (u := u3) (n := 5) (by omega)
 apply call_eq (f := 45) (fn := Try.f45) (by kernel_rfl) (by rfl)
 ·exact cast_c hd u3 5 lgB (by omega)
 generalize castF u3 5 = tk at ct ⊢
 generalize castU u3 5 = u4
 simp (maxSteps := 1000000) only [VL,VM,↓VG,reduceIte,reduceCtorEq,zA,zB,zC,zD,zE,zF,zG,zH,zI,zJ, DH_app hd, DH_len, DH_len0, DH_get hd, DH_get0 hd, DH_set hd, DH_set0 hd, DH_setd, DH_die hd]
 have hAd : admitR h tk shut = (admitV h tk.toNat shut, 0) := by unfold admitR; rw [if_pos (ticksErr_ok.2 ⟨hV, ⟨by omega, by omega⟩, ⟨by omega, by omega⟩, hs4⟩)]
 have AP := admit_P hV tk.toNat shut
 obtain ⟨A, hA⟩ : ∃ A, A = admitV h tk.toNat shut := ⟨_, rfl⟩
 obtain ⟨p1, p2, p3, p4⟩ := AP
 rw [← hA] at hAd p1 p2 p3 p4
 have hhb : ∀ x ∈ h.holds, 0 ≤ x ∧ x ≤ 2000000000 := fun x hx => by have := hV.holds x hx; omega
 ((repeat refine Ws ?_);refine Wr ?_)
 simp (maxSteps := 1000000) only [VL,VM,↓VG,reduceIte,reduceCtorEq,zA,zB,zC,zD,zE,zF,zG,zH,zI,zJ, hbx]
 apply call_eq (f := 52) (fn := Try.f52) (by kernel_rfl) (by rfl)
 ·exact Admit_v h tk shut _ (by omega) (by omega) (by omega) (by omega)
 rw [hAd]
 simp (maxSteps := 1000000) only [VL,VM,↓VG,reduceIte,reduceCtorEq,zA,zB,zC,zD,zE,zF,zG,zH,zI,zJ]
 have kA1 : (A < 0) = False := eq_false (by omega)
 have kA2 : (h.holds.sum < A) = False := eq_false (by omega)
 ((repeat refine Ws ?_);refine Wr ?_)
 simp (maxSteps := 1000000) only [VL,VM,↓VG,reduceIte,reduceCtorEq,zA,zB,zC,zD,zE,zF,zG,zH,zI,zJ, hbx, kA1]
 apply call_eq (f := 53) (fn := Try.f53) (by kernel_rfl) (by rfl)
 ·exact total_v h.holds _ (by omega) hhb
 simp (maxSteps := 1000000) only [VL,VM,↓VG,reduceIte,reduceCtorEq,zA,zB,zC,zD,zE,zF,zG,zH,zI,zJ, hbx, kA2]
 ((repeat refine Ws ?_);refine Wf (by first|rfl|simp only [EV,zF,reduceIte]) ?_)
 ((repeat refine Ws ?_);refine W_skip ?_)
 simp (maxSteps := 1000000) only [VL,VM,↓VG,reduceIte,reduceCtorEq,zA,zB,zC,zD,zE,zF,zG,zH,zI,zJ]
 ((repeat refine Ws ?_);refine Wr ?_)
 simp (maxSteps := 1000000) only [VL,VM,↓VG,reduceIte,reduceCtorEq,zA,zB,zC,zD,zE,zF,zG,zH,zI,zJ]
 refine W_know (t := 11) (x := .sf 1 [[.sl 0 []]]) (y := tabV (sprL (h.holds.take 0))) rfl (fun r hr => by simp [refs] at hr) (fun w K v => nil_row) ?_
 ((repeat refine Ws ?_);refine Wr ?_)
 simp (maxSteps := 1000000) only [VL,VM,↓VG,reduceIte,reduceCtorEq,zA,zB,zC,zD,zE,zF,zG,zH,zI,zJ]
 obtain ⟨Hb, hHb⟩ : ∃ Hb, Hb = DH H1 d u4 [] := ⟨_, rfl⟩
 have hbb : ∀ X, (Hb ++ X)[b]? = some (.obj (houseC h)) := fun X => by
  rw [hHb, ← DH_eq hd]
  exact hbx u4 X
 have htl : ∀ X, ∃ L, Hb ++ X = M.H ++ L := fun X => by
  rw [hHb, ← DH_eq hd]
  exact htail u4 X
 rw [← hHb]
 clear hbx htail hHb
 ((repeat refine Ws ?_);refine W_block ?_; (repeat refine Ws ?_)); refine W_loopS (fun s : AsSt => [(4, .ptr b 0), (7, intsV shut), (8, vi tk), (9, vi A), (11, tabV (sprL (h.holds.take s.i))), (12, vi s.i)]) (fun s => ⟨Hb ++ s.junk, lgB⟩) (fun s => h.holds.length - s.i) (fun s => s.i ≤ h.holds.length) ⟨0, []⟩ (Nat.zero_le _) ⟨rfl, rfl, rfl, rfl, rfl, rfl, trivial⟩ (by simp) ?_
 rintro ⟨k, junk⟩ hk
 simp only at hk
 have k1 : -9223372036854775808 ≤ (k : Int) + 1 ∧ (k : Int) + 1 < 9223372036854775808 := by omega
 ((repeat refine Ws ?_);refine Wr ?_)
 rcases Nat.lt_or_ge k h.holds.length with hlt | hge
 ·have k2 : ((k : Int) < (h.holds.length : Int)) = True := eq_true (by omega)
  simp (maxSteps := 1000000) only [VL,VM,↓VG,reduceIte,reduceCtorEq,zA,zB,zC,zD,zE,zF,zG,zH,zI,zJ, hbb, k2]
  ((repeat refine Ws ?_);refine Wt (by first|rfl|simp only [EV,zF,reduceIte]) ?_)
  ((repeat refine Ws ?_);refine W_skip ?_)
  simp (maxSteps := 1000000) only [VL,VM,↓VG,reduceIte,reduceCtorEq,zA,zB,zC,zD,zE,zF,zG,zH,zI,zJ]
  ((repeat refine Ws ?_);refine W_block ?_)
  ((repeat refine Ws ?_);refine Wr ?_)
  simp (maxSteps := 1000000) only [VL,VM,↓VG,reduceIte,reduceCtorEq,zA,zB,zC,zD,zE,zF,zG,zH,zI,zJ]
  refine W_tok (t := 13) (k := 1) rfl ?_
  simp (maxSteps := 1000000) only [VL,VM,↓VG,reduceIte,reduceCtorEq,zA,zB,zC,zD,zE,zF,zG,zH,zI,zJ]
  obtain ⟨Hc, hHc⟩ : ∃ Hc, Hc = Hb ++ junk := ⟨_, rfl⟩
  have hbc : ∀ X, (Hc ++ X)[b]? = some (.obj (houseC h)) := fun X => by rw [hHc, List.append_assoc]; exact hbb _
  have hcx : Hb ++ (junk ++ [VObj.clm 0 1]) = Hc ++ [VObj.clm 0 1] := by rw [hHc, List.append_assoc]
  have hcl : Hb.length + junk.length = Hc.length := by rw [hHc, List.length_append]
  rw [hcx, hcl]
  have hx : h.holds[k]? = some h.holds[k] := List.getElem?_eq_getElem hlt
  have hxm := List.getElem_mem hlt
  have htk : sprL (h.holds.take (k + 1)) = sprN (sprL (h.holds.take k)) h.holds[k] := by rw [List.take_add_one, hx, Option.toList_some, sprL_snoc]
  have hx6 := hold6 _ hxm
  generalize h.holds[k] = hn6 at hx hxm htk hx6
  have hx' := map_at (f := intP) hx
  have hmem := mem_sprL k (h.holds.take k) (by rw [List.length_take]; omega)
  have hfew := sprL_few 4 (h.holds.take k) (by rw [List.length_take]; omega) (fun n hn => hold6 n (List.mem_of_mem_take hn))
  generalize sprL (h.holds.take k) = acc at htk hmem hfew ⊢
  ((repeat refine Ws ?_);refine Wr ?_)
  simp (maxSteps := 1000000) only [VL,VM,↓VG,reduceIte,reduceCtorEq,zA,zB,zC,zD,zE,zF,zG,zH,zI,zJ]
  ((repeat refine Ws ?_);refine W_block ?_; (repeat refine Ws ?_)); refine W_loopS (fun s : AsSt => [(4, .ptr b 0), (7, intsV shut), (8, vi tk), (9, vi A), (11, tabV acc), (12, vi k), (13, .so Hc.length 1 ((partP acc hn6 s.i).map rowP)), (14, vi s.i)]) (fun s => ⟨Hc ++ (.clm (partP acc hn6 s.i).length 1 :: s.junk), lgB⟩) (fun s => acc.length - s.i) (fun s => s.i ≤ acc.length) ⟨0, []⟩ (Nat.zero_le _) ⟨rfl, rfl, rfl, rfl, rfl, rfl, rfl, rfl, trivial⟩ rfl ?_
  rintro ⟨i, jk2⟩ hi
  simp only at hi
  have j1 : -9223372036854775808 ≤ (i : Int) + 1 ∧ (i : Int) + 1 < 9223372036854775808 := by omega
  ((repeat refine Ws ?_);refine Wr ?_)
  rcases Nat.lt_or_ge i acc.length with hlt2 | hge2
  rotate_left
  ·obtain rfl : i = acc.length := by omega
   have k3 : ((acc.length : Int) < (acc.length : Int)) = False := eq_false (by omega)
   simp (maxSteps := 1000000) only [VL,VM,↓VG,reduceIte,reduceCtorEq,zA,zB,zC,zD,zE,zF,zG,zH,zI,zJ, k3]
   ((repeat refine Ws ?_);refine Wf (by first|rfl|simp only [EV,zF,reduceIte]) ?_)
   ((repeat refine Ws ?_);refine W_exit ?_)
   simp (maxSteps := 1000000) only [VL,VM,↓VG,reduceIte,reduceCtorEq,zA,zB,zC,zD,zE,zF,zG,zH,zI,zJ]
   rw [partP_all, ← htk]
   ((repeat refine Ws ?_);refine Wr ?_)
   simp (maxSteps := 1000000) only [VL,VM,↓VG,reduceIte,reduceCtorEq,zA,zB,zC,zD,zE,zF,zG,zH,zI,zJ]
   refine W_know (t := 11) (x := .so Hc.length 1 ((sprL (h.holds.take (k + 1))).map rowP)) (y := tabV (sprL (h.holds.take (k + 1)))) rfl (fun r hr => by simp [refs] at hr) (fun w K v => so_tab) ?_
   ((repeat refine Ws ?_);refine Wr ?_)
   simp (maxSteps := 1000000) only [VL,VM,↓VG,reduceIte,reduceCtorEq,zA,zB,zC,zD,zE,zF,zG,zH,zI,zJ, k1]
   refine LoopK.mk ⟨k + 1, junk ++ (.clm (sprL (h.holds.take (k + 1))).length 1 :: jk2)⟩ (by simp only; omega) (by simp only; omega) ⟨rfl, rfl, rfl, rfl, rfl, rfl, trivial⟩ ?_
   simp only
   rw [hHc, List.append_assoc]
  have k3 : ((i : Int) < (acc.length : Int)) = True := eq_true (by omega)
  have hs : acc[i]? = some acc[i] := List.getElem?_eq_getElem hlt2
  have hsm := (hmem _).1 (List.getElem_mem hlt2)
  have hps := partP_succ (n := hn6) hs
  generalize acc[i] = sp at hs hsm hps
  have hs' := map_at (f := rowP) hs
  have hsl : sp.length ≤ 4 := by have := hsm.1; rw [List.length_take] at this; omega
  simp (maxSteps := 1000000) only [VL,VM,↓VG,reduceIte,reduceCtorEq,zA,zB,zC,zD,zE,zF,zG,zH,zI,zJ, k3]
  ((repeat refine Ws ?_);refine Wt (by first|rfl|simp only [EV,zF,reduceIte]) ?_)
  ((repeat refine Ws ?_);refine W_skip ?_)
  simp (maxSteps := 1000000) only [VL,VM,↓VG,reduceIte,reduceCtorEq,zA,zB,zC,zD,zE,zF,zG,zH,zI,zJ]
  ((repeat refine Ws ?_);refine W_block ?_)
  ((repeat refine Ws ?_);refine Wr ?_)
  simp (maxSteps := 1000000) only [VL,VM,↓VG,reduceIte,reduceCtorEq,zA,zB,zC,zD,zE,zF,zG,zH,zI,zJ]
  obtain ⟨rows, hrows⟩ : ∃ rows : Nat → List (List Int), rows = fun c => partP acc hn6 i ++ (List.range c).map fun c : Nat => sp ++ [(c : Int)] := ⟨_, rfl⟩
  have hr0 : rows 0 = partP acc hn6 i := by rw [hrows]; simp
  have hrs : ∀ c, rows (c + 1) = rows c ++ [sp ++ [(c : Int)]] := fun c => by rw [hrows]; simp only; rw [List.range_succ, List.map_append, List.append_assoc]; rfl
  have hre : rows (hn6 + 1).toNat = partP acc hn6 (i + 1) := by rw [hrows, hps]
  have hpl : (partP acc hn6 i).length ≤ acc.length * 7 := by
   have := sprN_len (acc := acc.take i) hx6
   have h7 : (acc.take i).length * 7 ≤ acc.length * 7 := Nat.mul_le_mul_right _ (by rw [List.length_take]; omega)
   exact Nat.le_trans this h7
  have hrl : ∀ c, (rows c).length = (partP acc hn6 i).length + c := fun c => by rw [hrows]; simp
  have h4096 : (7 : Nat) ^ 4 = 2401 := by decide
  rw [h4096] at hfew
  have hh0 := (hV.holds _ hxm).1
  rw [← hr0]
  ((repeat refine Ws ?_);refine W_block ?_; (repeat refine Ws ?_)); refine W_loopS (fun s : AsSt => [(4, .ptr b 0), (7, intsV shut), (8, vi tk), (9, vi A), (11, tabV acc), (12, vi k), (13, .so Hc.length 1 ((rows s.i).map rowP)), (14, vi i), (15, vi s.i)]) (fun s => ⟨Hc ++ (.clm (rows s.i).length 1 :: s.junk), lgB⟩) (fun s => (hn6 + 1).toNat - s.i) (fun s => s.i ≤ (hn6 + 1).toNat) ⟨0, jk2⟩ (Nat.zero_le _) ⟨rfl, rfl, rfl, rfl, rfl, rfl, rfl, rfl, rfl, trivial⟩ rfl ?_
  rintro ⟨c, jk3⟩ hc
  simp only at hc
  have c1 : -9223372036854775808 ≤ (c : Int) + 1 ∧ (c : Int) + 1 < 9223372036854775808 := by omega
  ((repeat refine Ws ?_);refine Wr ?_)
  rcases Nat.lt_or_ge c (hn6 + 1).toNat with hlt3 | hge3
  rotate_left
  ·obtain rfl : c = (hn6 + 1).toNat := by omega
   have k4 : (((hn6 + 1).toNat : Int) ≤ hn6) = False := eq_false (by omega)
   simp (maxSteps := 1000000) only [VL,VM,↓VG,reduceIte,reduceCtorEq,zA,zB,zC,zD,zE,zF,zG,zH,zI,zJ, hbc, hx', k4]
   ((repeat refine Ws ?_);refine Wf (by first|rfl|simp only [EV,zF,reduceIte]) ?_)
   ((repeat refine Ws ?_);refine W_exit ?_)
   simp (maxSteps := 1000000) only [VL,VM,↓VG,reduceIte,reduceCtorEq,zA,zB,zC,zD,zE,zF,zG,zH,zI,zJ]
   rw [hre]
   ((repeat refine Ws ?_);refine Wr ?_)
   simp (maxSteps := 1000000) only [VL,VM,↓VG,reduceIte,reduceCtorEq,zA,zB,zC,zD,zE,zF,zG,zH,zI,zJ, j1]
   exact LoopK.mk ⟨i + 1, jk3⟩ (by simp only; omega) (by simp only; omega) ⟨rfl, rfl, rfl, rfl, rfl, rfl, rfl, rfl, trivial⟩ rfl
  have k4 : ((c : Int) ≤ hn6) = True := eq_true (by omega)
  have hap : sp.map intP ++ [[PV.int .i64 (c : Int)]] = (sp ++ [(c : Int)]).map intP := by simp
  have hap2 : (rows c).map rowP ++ [rowP (sp ++ [(c : Int)])] = (rows (c + 1)).map rowP := by rw [hrs]; simp
  have hrl2 : (rows c).length + 1 = (rows (c + 1)).length := by rw [hrl, hrl]; omega
  have q1 : ((sp.length + 1) * 8 ≤ 140737488355328) = True := eq_true (by omega)
  have q2 : (((rows c).length + 1) * 24 ≤ 140737488355328) = True := eq_true (by rw [hrl]; omega)
  have gJ : ∀ x o, (Hc ++ (x :: (jk3 ++ [o])))[Hc.length + (jk3.length + 1)]? = some o := fun x o => by
   rw [hget, List.getElem?_cons_succ, hget0]; rfl
  have sJ : ∀ x o o', (Hc ++ (x :: (jk3 ++ [o]))).set (Hc.length + (jk3.length + 1)) o' = Hc ++ (x :: (jk3 ++ [o'])) := fun x o o' => by
   rw [hset, List.set_cons_succ, hset0]; rfl
  have g0 : ∀ x X, (Hc ++ (x :: X))[Hc.length]? = some x := fun x X => by rw [hget0]; rfl
  have s0 : ∀ x X o', (Hc ++ (x :: X)).set Hc.length o' = Hc ++ (o' :: X) := fun x X o' => by rw [hset0]; rfl
  simp (maxSteps := 1000000) only [VL,VM,↓VG,reduceIte,reduceCtorEq,zA,zB,zC,zD,zE,zF,zG,zH,zI,zJ, hbc, hx', k4]
  ((repeat refine Ws ?_);refine Wt (by first|rfl|simp only [EV,zF,reduceIte]) ?_)
  ((repeat refine Ws ?_);refine W_skip ?_)
  simp (maxSteps := 1000000) only [VL,VM,↓VG,reduceIte,reduceCtorEq,zA,zB,zC,zD,zE,zF,zG,zH,zI,zJ]
  ((repeat refine Ws ?_);refine W_block ?_)
  ((repeat refine Ws ?_);refine Wr ?_)
  simp (maxSteps := 1000000) only [VL,VM,↓VG,reduceIte,reduceCtorEq,zA,zB,zC,zD,zE,zF,zG,zH,zI,zJ, hs']
  refine fn_call4 (f := 31) (fn := Try.f31) (by kernel_rfl) (by rfl) ?_
  refine (copyInts_k sp _ (by omega)).mono ?_
  rintro _ _ ⟨rfl, rfl⟩
  simp only [List.append_assoc, List.cons_append, List.nil_append, List.length_append, List.length_cons]
  simp (maxSteps := 1000000) only [VL,VM,↓VG,reduceIte,reduceCtorEq,zA,zB,zC,zD,zE,zF,zG,zH,zI,zJ, gJ, sJ, g0, s0, q1, q2]
  rw [hap, hap2, hrl2]
  ((repeat refine Ws ?_);refine Wr ?_)
  simp (maxSteps := 1000000) only [VL,VM,↓VG,reduceIte,reduceCtorEq,zA,zB,zC,zD,zE,zF,zG,zH,zI,zJ, c1]
  exact LoopK.mk ⟨c + 1, jk3 ++ [.clm (sp.length + 1) 1]⟩ (by simp only; omega) (by simp only; omega) ⟨rfl, rfl, rfl, rfl, rfl, rfl, rfl, rfl, rfl, trivial⟩ rfl
 obtain rfl : k = h.holds.length := by omega
 have k2 : ((h.holds.length : Int) < (h.holds.length : Int)) = False := eq_false (by omega)
 simp (maxSteps := 1000000) only [VL,VM,↓VG,reduceIte,reduceCtorEq,zA,zB,zC,zD,zE,zF,zG,zH,zI,zJ, hbb, k2]
 ((repeat refine Ws ?_);refine Wf (by first|rfl|simp only [EV,zF,reduceIte]) ?_)
 ((repeat refine Ws ?_);refine W_exit ?_)
 simp (maxSteps := 1000000) only [VL,VM,↓VG,reduceIte,reduceCtorEq,zA,zB,zC,zD,zE,zF,zG,zH,zI,zJ]
 rw [List.take_length]
 have hmem := mem_sprL _ h.holds rfl
 have hfewL : (sprL h.holds).length ≤ 2401 := sprL_few 4 h.holds (by omega) hold6
 have hhs := sumTo_bd (n := h.holds.length) (f := comeOf h.holds) (a := 0) (b := 10000) fun i _ => by have := hold_bd hV i; unfold comeOf; omega
 rw [sum_getD] at hhs
 generalize sprL h.holds = L at hmem hfewL ⊢
 obtain ⟨tn, htn⟩ : ∃ tn : Nat, tk = (tn : Int) := ⟨tk.toNat, by omega⟩
 have htk : tk.toNat = tn := by omega
 rw [htk] at p3 p4
 have hsp : ∀ c ∈ L, Spr h c := fun c hc => ⟨((hmem c).1 hc).1, ((hmem c).1 hc).2⟩
 have hcb : ∀ c ∈ L, ∀ x ∈ c, 0 ≤ x ∧ x ≤ 10000 := fun c hc x hx => by
  obtain ⟨i, hi⟩ := List.getElem?_of_mem hx
  have hil := (List.getElem?_eq_some_iff.1 hi).1
  have h1 := (hsp c hc).bd i (by rw [← (hsp c hc).len]; exact hil)
  have h2 := hold_bd hV i
  rw [List.getD_eq_getElem?_getD, hi] at h1
  simp only [Option.getD_some] at h1
  omega
 have hfy : ∀ c ∈ L, c.sum = A → fitT h tn shut c = true := fun c hc hs => fits_yes (by omega) (p3 c (hsp c hc) hs)
 have hfn : A < h.holds.sum → ∃ c ∈ L, c.sum = A + 1 ∧ fitT h tn shut c = false := fun hlt => by
  obtain ⟨c, sc, h1, h2⟩ := p4 hlt
  have hcm : c ∈ L := (hmem c).2 ⟨sc.len, sc.bd⟩
  refine ⟨c, hcm, h1, fits_no hV (fun i hi => ?_) h2⟩
  have h1 := sc.bd i hi
  have h2 := hold_bd hV i
  unfold comeOf
  omega
 obtain ⟨pos, hpos⟩ : ∃ pos : Nat → Bool, pos = fun i => (L.take i).any fun c => decide (c.sum = A + 1) && !fitT h tn shut c := ⟨_, rfl⟩
 have hpos0 : pos 0 = false := by rw [hpos]; rfl
 have hposS : ∀ i c, L[i]? = some c → pos (i + 1) = (pos i || (decide (c.sum = A + 1) && !fitT h tn shut c)) := fun i c hc => by
  rw [hpos]
  simp only
  rw [List.take_add_one, hc, Option.toList_some, List.any_append]
  simp
 have hposE : (pos L.length || decide (A = h.holds.sum)) = true := by
  rcases Int.lt_or_eq_of_le p2 with q | q
  ·obtain ⟨c, h1, h2, h3⟩ := hfn q
   rw [hpos]
   simp only
   rw [List.take_length, Bool.or_eq_true]
   refine .inl (List.any_eq_true.2 ⟨c, h1, ?_⟩)
   rw [h3, decide_eq_true h2]; rfl
  ·rw [decide_eq_true q, Bool.or_true]
 clear hpos hfn p3 p4 hmem
 obtain ⟨Hd, hHd⟩ : ∃ Hd, Hd = Hb ++ junk := ⟨_, rfl⟩
 have hbd : Hd[b]? = some (.obj (houseC h)) := by rw [hHd]; exact hbb _
 obtain ⟨LE, hLE⟩ := htl junk
 rw [← hHd] at hLE ⊢
 clear hbb htl hHd
 subst htn
 ((repeat refine Ws ?_);refine Wr ?_)
 simp (maxSteps := 1000000) only [VL,VM,↓VG,reduceIte,reduceCtorEq,zA,zB,zC,zD,zE,zF,zG,zH,zI,zJ]
 ((repeat refine Ws ?_);refine Wr ?_)
 simp (maxSteps := 1000000) only [VL,VM,↓VG,reduceIte,reduceCtorEq,zA,zB,zC,zD,zE,zF,zG,zH,zI,zJ]
 ((repeat refine Ws ?_);refine W_block ?_; (repeat refine Ws ?_)); refine W_loopS (fun i : Nat => [(4, .ptr b 0), (7, intsV shut), (8, vi tn), (9, vi A), (11, tabV L), (16, vb (pos i)), (17, vi i)]) (fun _ => ⟨Hd, lgB⟩) (fun i => L.length - i) (fun i => i ≤ L.length) 0 (Nat.zero_le _) ⟨rfl, rfl, rfl, rfl, rfl, ?_, rfl, trivial⟩ rfl ?_
 ·rw [hpos0]; rfl
 intro i hi
 have i1 : -9223372036854775808 ≤ (i : Int) + 1 ∧ (i : Int) + 1 < 9223372036854775808 := by omega
 ((repeat refine Ws ?_);refine Wr ?_)
 rcases Nat.lt_or_ge i L.length with hlt | hge
 ·have i2 : ((i : Int) < (L.length : Int)) = True := eq_true (by omega)
  have hc : L[i]? = some L[i] := List.getElem?_eq_getElem hlt
  have hcm := List.getElem_mem hlt
  have hps := hposS i _ hc
  generalize L[i] = c at hc hcm hps
  have hc' := map_at (f := rowP) hc
  have hlen := (hsp c hcm).len
  have hbdc := hcb c hcm
  have hy := hfy c hcm
  have hlr : leaveR h c shut = (match leaveT h c shut with | some t => ((t : Int), 0) | none => (0, 12)) := by unfold leaveR; rw [if_pos (leaveErr_ok hV hlen hbdc hs4)]; cases leaveT h c shut <;> rfl
  have hft : fitT h tn shut c = (match leaveT h c shut with | some t => decide (t ≤ tn) | none => false) := by unfold fitT; cases leaveT h c shut <;> rfl
  have hsb := sumTo_bd (n := c.length) (f := comeOf c) (a := 0) (b := 10000) fun i hi => by
   unfold comeOf
   rw [List.getD_eq_getElem?_getD, List.getElem?_eq_getElem hi, Option.getD_some]
   exact hbdc _ (List.getElem_mem hi)
  rw [sum_getD] at hsb
  have kA : -9223372036854775808 ≤ A + 1 ∧ A + 1 < 9223372036854775808 := by omega
  simp (maxSteps := 1000000) only [VL,VM,↓VG,reduceIte,reduceCtorEq,zA,zB,zC,zD,zE,zF,zG,zH,zI,zJ, i2]
  ((repeat refine Ws ?_);refine Wt (by first|rfl|simp only [EV,zF,reduceIte]) ?_)
  ((repeat refine Ws ?_);refine W_skip ?_)
  simp (maxSteps := 1000000) only [VL,VM,↓VG,reduceIte,reduceCtorEq,zA,zB,zC,zD,zE,zF,zG,zH,zI,zJ]
  ((repeat refine Ws ?_);refine W_block ?_)
  ((repeat refine Ws ?_);refine Wr ?_)
  simp (maxSteps := 1000000) only [VL,VM,↓VG,reduceIte,reduceCtorEq,zA,zB,zC,zD,zE,zF,zG,zH,zI,zJ, hc']
  apply call_eq (f := 53) (fn := Try.f53) (by kernel_rfl) (by rfl)
  ·exact total_v c _ (by omega) (fun x hx => by have := hbdc x hx; omega)
  simp (maxSteps := 1000000) only [VL,VM,↓VG,reduceIte,reduceCtorEq,zA,zB,zC,zD,zE,zF,zG,zH,zI,zJ]
  have hlv := Leave_v h c shut ⟨Hd, lgB⟩ (by omega) (by omega) (by omega) (by omega) (by omega)
  have kz : ((0 : Int) = 12) = False := eq_false (by omega)
  have kt : ((12 : Int) = 0) = False := eq_false (by omega)
  ((repeat refine Ws ?_);refine Wr ?_)
  by_cases s1 : c.sum = A
  ·have b1 : (c.sum = A) = True := eq_true s1
   have b2 : (c.sum = A + 1) = False := eq_false (by omega)
   have hf := hy s1
   rw [hft] at hf
   rw [decide_eq_false (by omega : ¬ c.sum = A + 1), Bool.false_and, Bool.or_false] at hps
   cases hT : leaveT h c shut with
   | none => rw [hT] at hf; cases hf
   | some t =>
    rw [hT] at hf hlr
    simp only at hf hlr
    rw [hlr] at hlv
    have b3 : ((t : Int) ≤ (tn : Int)) = True := eq_true (by have := of_decide_eq_true hf; omega)
    generalize c.sum = cs at b1 b2 ⊢
    simp (maxSteps := 1000000) only [VL,VM,↓VG,reduceIte,reduceCtorEq,zA,zB,zC,zD,zE,zF,zG,zH,zI,zJ, b1]
    ((repeat refine Ws ?_);refine Wf (by first|rfl|simp only [EV,zF,reduceIte]) ?_)
    ((repeat refine Ws ?_);refine W_skip ?_)
    simp (maxSteps := 1000000) only [VL,VM,↓VG,reduceIte,reduceCtorEq,zA,zB,zC,zD,zE,zF,zG,zH,zI,zJ]
    (repeat refine Ws ?_)
    refine W_drawP T_ok [] (by kernel_rfl) (by kernel_rfl) ?_
    generalize hi : mkPlan _ = infs
    cbv at hi
    subst hi
    simp (maxSteps := 1000000) only [VL,VM,↓VG,reduceIte,reduceCtorEq,zA,zB,zC,zD,zE,zF,zG,zH,zI,zJ, hbd, hc']
    apply call_d (f := 32) (fn := Try.f32) (by kernel_rfl) (by rfl)
    ·exact hlv
    simp (maxSteps := 1000000) only [VL,VM,↓VG,reduceIte,reduceCtorEq,zA,zB,zC,zD,zE,zF,zG,zH,zI,zJ]
    ((repeat refine Ws ?_);refine Wr ?_)
    simp (maxSteps := 1000000) only [VL,VM,↓VG,reduceIte,reduceCtorEq,zA,zB,zC,zD,zE,zF,zG,zH,zI,zJ]
    ((repeat refine Ws ?_);refine Wf (by first|rfl|simp only [EV,zF,reduceIte]) ?_)
    ((repeat refine Ws ?_);refine W_skip ?_)
    simp (maxSteps := 1000000) only [VL,VM,↓VG,reduceIte,reduceCtorEq,zA,zB,zC,zD,zE,zF,zG,zH,zI,zJ]
    ((repeat refine Ws ?_);refine Wr ?_)
    simp (maxSteps := 1000000) only [VL,VM,↓VG,reduceIte,reduceCtorEq,zA,zB,zC,zD,zE,zF,zG,zH,zI,zJ, b3]
    ((repeat refine Ws ?_);refine Wr ?_)
    simp (maxSteps := 1000000) only [VL,VM,↓VG,reduceIte,reduceCtorEq,zA,zB,zC,zD,zE,zF,zG,zH,zI,zJ, b1]
    ((repeat refine Ws ?_);refine Wf (by first|rfl|simp only [EV,zF,reduceIte]) ?_)
    ((repeat refine Ws ?_);refine W_skip ?_)
    simp (maxSteps := 1000000) only [VL,VM,↓VG,reduceIte,reduceCtorEq,zA,zB,zC,zD,zE,zF,zG,zH,zI,zJ]
    cases hpi : pos i
    ·((repeat refine Ws ?_);refine Wr ?_)
     simp (maxSteps := 1000000) only [VL,VM,↓VG,reduceIte,reduceCtorEq,zA,zB,zC,zD,zE,zF,zG,zH,zI,zJ, kA, b2]
     ((repeat refine Ws ?_);refine Wr ?_)
     simp (maxSteps := 1000000) only [VL,VM,↓VG,reduceIte,reduceCtorEq,zA,zB,zC,zD,zE,zF,zG,zH,zI,zJ, i1]
     refine LoopK.mk (i + 1) (by omega) (by omega) ⟨rfl, rfl, rfl, rfl, rfl, ?_, rfl, trivial⟩ rfl
     rw [hps, hpi]; rfl
    ·((repeat refine Ws ?_);refine Wr ?_)
     simp (maxSteps := 1000000) only [VL,VM,↓VG,reduceIte,reduceCtorEq,zA,zB,zC,zD,zE,zF,zG,zH,zI,zJ, kA, b2]
     ((repeat refine Ws ?_);refine Wr ?_)
     simp (maxSteps := 1000000) only [VL,VM,↓VG,reduceIte,reduceCtorEq,zA,zB,zC,zD,zE,zF,zG,zH,zI,zJ, i1]
     refine LoopK.mk (i + 1) (by omega) (by omega) ⟨rfl, rfl, rfl, rfl, rfl, ?_, rfl, trivial⟩ rfl
     rw [hps, hpi]; rfl
  have b1 : (c.sum = A) = False := eq_false s1
  by_cases s2 : c.sum = A + 1
  ·have b2 : (c.sum = A + 1) = True := eq_true s2
   rw [decide_eq_true s2, Bool.true_and] at hps
   cases hT : leaveT h c shut with
   | none =>
    rw [hT] at hlr hft
    simp only at hlr hft
    rw [hlr] at hlv
    rw [hft] at hps
    generalize c.sum = cs at b1 b2 ⊢
    simp (maxSteps := 1000000) only [VL,VM,↓VG,reduceIte,reduceCtorEq,zA,zB,zC,zD,zE,zF,zG,zH,zI,zJ, b1, b2, kA]
    ((repeat refine Ws ?_);refine Wf (by first|rfl|simp only [EV,zF,reduceIte]) ?_)
    ((repeat refine Ws ?_);refine W_skip ?_)
    simp (maxSteps := 1000000) only [VL,VM,↓VG,reduceIte,reduceCtorEq,zA,zB,zC,zD,zE,zF,zG,zH,zI,zJ, kt, decide_false, Bool.not_false, cond_true, cond_false]
    (repeat refine Ws ?_)
    refine W_drawP T_ok [] (by kernel_rfl) (by kernel_rfl) ?_
    generalize hi : mkPlan _ = infs
    cbv at hi
    subst hi
    simp (maxSteps := 1000000) only [VL,VM,↓VG,reduceIte,reduceCtorEq,zA,zB,zC,zD,zE,zF,zG,zH,zI,zJ, hbd, hc']
    apply call_d (f := 32) (fn := Try.f32) (by kernel_rfl) (by rfl)
    ·exact hlv
    simp (maxSteps := 1000000) only [VL,VM,↓VG,reduceIte,reduceCtorEq,zA,zB,zC,zD,zE,zF,zG,zH,zI,zJ, kt, decide_false, Bool.not_false, cond_true, cond_false]
    ((repeat refine Ws ?_);refine Wr ?_)
    simp (maxSteps := 1000000) only [VL,VM,↓VG,reduceIte,reduceCtorEq,zA,zB,zC,zD,zE,zF,zG,zH,zI,zJ, kt, decide_false, Bool.not_false, cond_true, cond_false]
    ((repeat refine Ws ?_);refine Wf (by first|rfl|simp only [EV,zF,reduceIte]) ?_)
    ((repeat refine Ws ?_);refine W_skip ?_)
    simp (maxSteps := 1000000) only [VL,VM,↓VG,reduceIte,reduceCtorEq,zA,zB,zC,zD,zE,zF,zG,zH,zI,zJ, kt, decide_false, Bool.not_false, cond_true, cond_false]
    ((repeat refine Ws ?_);refine Wr ?_)
    simp (maxSteps := 1000000) only [VL,VM,↓VG,reduceIte,reduceCtorEq,zA,zB,zC,zD,zE,zF,zG,zH,zI,zJ, kt, decide_false, Bool.not_false, cond_true, cond_false]
    ((repeat refine Ws ?_);refine Wr ?_)
    simp (maxSteps := 1000000) only [VL,VM,↓VG,reduceIte,reduceCtorEq,zA,zB,zC,zD,zE,zF,zG,zH,zI,zJ, b1, kt, decide_false]
    ((repeat refine Ws ?_);refine Wf (by first|rfl|simp only [EV,zF,reduceIte]) ?_)
    ((repeat refine Ws ?_);refine W_skip ?_)
    simp (maxSteps := 1000000) only [VL,VM,↓VG,reduceIte,reduceCtorEq,zA,zB,zC,zD,zE,zF,zG,zH,zI,zJ, kt, decide_false, Bool.not_false, cond_true, cond_false]
    cases hpi : pos i
    ·((repeat refine Ws ?_);refine Wr ?_)
     simp (maxSteps := 1000000) only [VL,VM,↓VG,reduceIte,reduceCtorEq,zA,zB,zC,zD,zE,zF,zG,zH,zI,zJ, kA, b2]
     ((repeat refine Ws ?_);refine Wr ?_)
     simp (maxSteps := 1000000) only [VL,VM,↓VG,reduceIte,reduceCtorEq,zA,zB,zC,zD,zE,zF,zG,zH,zI,zJ, i1]
     refine LoopK.mk (i + 1) (by omega) (by omega) ⟨rfl, rfl, rfl, rfl, rfl, ?_, rfl, trivial⟩ rfl
     rw [hps, hpi]; rfl
    ·((repeat refine Ws ?_);refine Wr ?_)
     simp (maxSteps := 1000000) only [VL,VM,↓VG,reduceIte,reduceCtorEq,zA,zB,zC,zD,zE,zF,zG,zH,zI,zJ, kA, b2]
     ((repeat refine Ws ?_);refine Wr ?_)
     simp (maxSteps := 1000000) only [VL,VM,↓VG,reduceIte,reduceCtorEq,zA,zB,zC,zD,zE,zF,zG,zH,zI,zJ, i1]
     refine LoopK.mk (i + 1) (by omega) (by omega) ⟨rfl, rfl, rfl, rfl, rfl, ?_, rfl, trivial⟩ rfl
     rw [hps, hpi]; rfl
   | some t =>
    rw [hT] at hlr hft
    simp only at hlr hft
    rw [hlr] at hlv
    rw [hft] at hps
    have b3 : decide ((t : Int) ≤ (tn : Int)) = decide (t ≤ tn) := by
     by_cases z : t ≤ tn
     ·rw [decide_eq_true z, decide_eq_true (by omega)]
     ·rw [decide_eq_false z, decide_eq_false (by omega)]
    cases hz : decide (t ≤ tn)
    all_goals rw [hz] at b3 hps
    all_goals generalize c.sum = cs at b1 b2 ⊢
    ·simp (maxSteps := 1000000) only [VL,VM,↓VG,reduceIte,reduceCtorEq,zA,zB,zC,zD,zE,zF,zG,zH,zI,zJ, b1, b2, kA]
     ((repeat refine Ws ?_);refine Wf (by first|rfl|simp only [EV,zF,reduceIte]) ?_)
     ((repeat refine Ws ?_);refine W_skip ?_)
     simp (maxSteps := 1000000) only [VL,VM,↓VG,reduceIte,reduceCtorEq,zA,zB,zC,zD,zE,zF,zG,zH,zI,zJ]
     (repeat refine Ws ?_)
     refine W_drawP T_ok [] (by kernel_rfl) (by kernel_rfl) ?_
     generalize hi : mkPlan _ = infs
     cbv at hi
     subst hi
     simp (maxSteps := 1000000) only [VL,VM,↓VG,reduceIte,reduceCtorEq,zA,zB,zC,zD,zE,zF,zG,zH,zI,zJ, hbd, hc']
     apply call_d (f := 32) (fn := Try.f32) (by kernel_rfl) (by rfl)
     ·exact hlv
     simp (maxSteps := 1000000) only [VL,VM,↓VG,reduceIte,reduceCtorEq,zA,zB,zC,zD,zE,zF,zG,zH,zI,zJ]
     ((repeat refine Ws ?_);refine Wr ?_)
     simp (maxSteps := 1000000) only [VL,VM,↓VG,reduceIte,reduceCtorEq,zA,zB,zC,zD,zE,zF,zG,zH,zI,zJ]
     ((repeat refine Ws ?_);refine Wf (by first|rfl|simp only [EV,zF,reduceIte]) ?_)
     ((repeat refine Ws ?_);refine W_skip ?_)
     simp (maxSteps := 1000000) only [VL,VM,↓VG,reduceIte,reduceCtorEq,zA,zB,zC,zD,zE,zF,zG,zH,zI,zJ]
     ((repeat refine Ws ?_);refine Wr ?_)
     have b4 : ((t : Int) ≤ (tn : Int)) = False := eq_false (of_decide_eq_false b3)
     simp (maxSteps := 1000000) only [VL,VM,↓VG,reduceIte,reduceCtorEq,zA,zB,zC,zD,zE,zF,zG,zH,zI,zJ, b4]
     ((repeat refine Ws ?_);refine Wr ?_)
     simp (maxSteps := 1000000) only [VL,VM,↓VG,reduceIte,reduceCtorEq,zA,zB,zC,zD,zE,zF,zG,zH,zI,zJ, b1]
     ((repeat refine Ws ?_);refine Wf (by first|rfl|simp only [EV,zF,reduceIte]) ?_)
     ((repeat refine Ws ?_);refine W_skip ?_)
     simp (maxSteps := 1000000) only [VL,VM,↓VG,reduceIte,reduceCtorEq,zA,zB,zC,zD,zE,zF,zG,zH,zI,zJ]
     cases hpi : pos i
     ·((repeat refine Ws ?_);refine Wr ?_)
      simp (maxSteps := 1000000) only [VL,VM,↓VG,reduceIte,reduceCtorEq,zA,zB,zC,zD,zE,zF,zG,zH,zI,zJ, kA, b2]
      ((repeat refine Ws ?_);refine Wr ?_)
      simp (maxSteps := 1000000) only [VL,VM,↓VG,reduceIte,reduceCtorEq,zA,zB,zC,zD,zE,zF,zG,zH,zI,zJ, i1]
      refine LoopK.mk (i + 1) (by omega) (by omega) ⟨rfl, rfl, rfl, rfl, rfl, ?_, rfl, trivial⟩ rfl
      rw [hps, hpi]; rfl
     ·((repeat refine Ws ?_);refine Wr ?_)
      simp (maxSteps := 1000000) only [VL,VM,↓VG,reduceIte,reduceCtorEq,zA,zB,zC,zD,zE,zF,zG,zH,zI,zJ, kA, b2]
      ((repeat refine Ws ?_);refine Wr ?_)
      simp (maxSteps := 1000000) only [VL,VM,↓VG,reduceIte,reduceCtorEq,zA,zB,zC,zD,zE,zF,zG,zH,zI,zJ, i1]
      refine LoopK.mk (i + 1) (by omega) (by omega) ⟨rfl, rfl, rfl, rfl, rfl, ?_, rfl, trivial⟩ rfl
      rw [hps, hpi]; rfl
    ·simp (maxSteps := 1000000) only [VL,VM,↓VG,reduceIte,reduceCtorEq,zA,zB,zC,zD,zE,zF,zG,zH,zI,zJ, b1, b2, kA]
     ((repeat refine Ws ?_);refine Wf (by first|rfl|simp only [EV,zF,reduceIte]) ?_)
     ((repeat refine Ws ?_);refine W_skip ?_)
     simp (maxSteps := 1000000) only [VL,VM,↓VG,reduceIte,reduceCtorEq,zA,zB,zC,zD,zE,zF,zG,zH,zI,zJ]
     (repeat refine Ws ?_)
     refine W_drawP T_ok [] (by kernel_rfl) (by kernel_rfl) ?_
     generalize hi : mkPlan _ = infs
     cbv at hi
     subst hi
     simp (maxSteps := 1000000) only [VL,VM,↓VG,reduceIte,reduceCtorEq,zA,zB,zC,zD,zE,zF,zG,zH,zI,zJ, hbd, hc']
     apply call_d (f := 32) (fn := Try.f32) (by kernel_rfl) (by rfl)
     ·exact hlv
     simp (maxSteps := 1000000) only [VL,VM,↓VG,reduceIte,reduceCtorEq,zA,zB,zC,zD,zE,zF,zG,zH,zI,zJ]
     ((repeat refine Ws ?_);refine Wr ?_)
     simp (maxSteps := 1000000) only [VL,VM,↓VG,reduceIte,reduceCtorEq,zA,zB,zC,zD,zE,zF,zG,zH,zI,zJ]
     ((repeat refine Ws ?_);refine Wf (by first|rfl|simp only [EV,zF,reduceIte]) ?_)
     ((repeat refine Ws ?_);refine W_skip ?_)
     simp (maxSteps := 1000000) only [VL,VM,↓VG,reduceIte,reduceCtorEq,zA,zB,zC,zD,zE,zF,zG,zH,zI,zJ]
     ((repeat refine Ws ?_);refine Wr ?_)
     have b4 : ((t : Int) ≤ (tn : Int)) = True := eq_true (of_decide_eq_true b3)
     simp (maxSteps := 1000000) only [VL,VM,↓VG,reduceIte,reduceCtorEq,zA,zB,zC,zD,zE,zF,zG,zH,zI,zJ, b4]
     ((repeat refine Ws ?_);refine Wr ?_)
     simp (maxSteps := 1000000) only [VL,VM,↓VG,reduceIte,reduceCtorEq,zA,zB,zC,zD,zE,zF,zG,zH,zI,zJ, b1]
     ((repeat refine Ws ?_);refine Wf (by first|rfl|simp only [EV,zF,reduceIte]) ?_)
     ((repeat refine Ws ?_);refine W_skip ?_)
     simp (maxSteps := 1000000) only [VL,VM,↓VG,reduceIte,reduceCtorEq,zA,zB,zC,zD,zE,zF,zG,zH,zI,zJ]
     cases hpi : pos i
     ·((repeat refine Ws ?_);refine Wr ?_)
      simp (maxSteps := 1000000) only [VL,VM,↓VG,reduceIte,reduceCtorEq,zA,zB,zC,zD,zE,zF,zG,zH,zI,zJ, kA, b2]
      ((repeat refine Ws ?_);refine Wr ?_)
      simp (maxSteps := 1000000) only [VL,VM,↓VG,reduceIte,reduceCtorEq,zA,zB,zC,zD,zE,zF,zG,zH,zI,zJ, i1]
      refine LoopK.mk (i + 1) (by omega) (by omega) ⟨rfl, rfl, rfl, rfl, rfl, ?_, rfl, trivial⟩ rfl
      rw [hps, hpi]; rfl
     ·((repeat refine Ws ?_);refine Wr ?_)
      simp (maxSteps := 1000000) only [VL,VM,↓VG,reduceIte,reduceCtorEq,zA,zB,zC,zD,zE,zF,zG,zH,zI,zJ, kA, b2]
      ((repeat refine Ws ?_);refine Wr ?_)
      simp (maxSteps := 1000000) only [VL,VM,↓VG,reduceIte,reduceCtorEq,zA,zB,zC,zD,zE,zF,zG,zH,zI,zJ, i1]
      refine LoopK.mk (i + 1) (by omega) (by omega) ⟨rfl, rfl, rfl, rfl, rfl, ?_, rfl, trivial⟩ rfl
      rw [hps, hpi]; rfl
  ·have b2 : (c.sum = A + 1) = False := eq_false s2
   rw [decide_eq_false s2, Bool.false_and, Bool.or_false] at hps
   generalize c.sum = cs at b1 b2 ⊢
   simp (maxSteps := 1000000) only [VL,VM,↓VG,reduceIte,reduceCtorEq,zA,zB,zC,zD,zE,zF,zG,zH,zI,zJ, b1, b2, kA]
   ((repeat refine Ws ?_);refine Wt (by first|rfl|simp only [EV,zF,reduceIte]) ?_)
   ((repeat refine Ws ?_);refine W_exit ?_)
   simp (maxSteps := 1000000) only [VL,VM,↓VG,reduceIte,reduceCtorEq,zA,zB,zC,zD,zE,zF,zG,zH,zI,zJ]
   ((repeat refine Ws ?_);refine Wr ?_)
   simp (maxSteps := 1000000) only [VL,VM,↓VG,reduceIte,reduceCtorEq,zA,zB,zC,zD,zE,zF,zG,zH,zI,zJ, i1]
   refine LoopK.mk (i + 1) (by omega) (by omega) ⟨rfl, rfl, rfl, rfl, rfl, ?_, rfl, trivial⟩ rfl
   rw [hps]; rfl
 obtain rfl : i = L.length := by omega
 have i2 : ((L.length : Int) < (L.length : Int)) = False := eq_false (by omega)
 have hZ3 : ∀ e ∈ Z, M.H.length ≤ e.1 := fun e he => by have := (hZ2 e he).1; omega
 simp (maxSteps := 1000000) only [VL,VM,↓VG,reduceIte,reduceCtorEq,zA,zB,zC,zD,zE,zF,zG,zH,zI,zJ, i2]
 ((repeat refine Ws ?_);refine Wf (by first|rfl|simp only [EV,zF,reduceIte]) ?_)
 ((repeat refine Ws ?_);refine W_exit ?_)
 simp (maxSteps := 1000000) only [VL,VM,↓VG,reduceIte,reduceCtorEq,zA,zB,zC,zD,zE,zF,zG,zH,zI,zJ]
 cases hpl : pos L.length
 ·rw [hpl, Bool.false_or] at hposE
  have b9 : (A = h.holds.sum) = True := eq_true (of_decide_eq_true hposE)
  ((repeat refine Ws ?_);refine Wr ?_)
  simp (maxSteps := 1000000) only [VL,VM,↓VG,reduceIte,reduceCtorEq,zA,zB,zC,zD,zE,zF,zG,zH,zI,zJ, hbd]
  apply call_eq (f := 53) (fn := Try.f53) (by kernel_rfl) (by rfl)
  ·exact total_v h.holds _ (by omega) hhb
  simp (maxSteps := 1000000) only [VL,VM,↓VG,reduceIte,reduceCtorEq,zA,zB,zC,zD,zE,zF,zG,zH,zI,zJ, hbd, b9]
  apply call_eq (f := 18) (fn := Try.f18) (by kernel_rfl) (by rfl)
  ·exact awake_v _
  simp (maxSteps := 1000000) only [VL,VM,↓VG,reduceIte,reduceCtorEq,zA,zB,zC,zD,zE,zF,zG,zH,zI,zJ]
  (repeat refine Ws ?_)
  refine W_ret ?_
  try simp only [thenQ, blockQ]
  exact ⟨.inr rfl, rfl, ⟨Z, hZ1, hZ3⟩, M.H, LE, hLE, rfl, [vb true], rfl, vb true, rfl, by simp [refs], rfl, rfl⟩
 ·((repeat refine Ws ?_);refine Wr ?_)
  simp (maxSteps := 1000000) only [VL,VM,↓VG,reduceIte,reduceCtorEq,zA,zB,zC,zD,zE,zF,zG,zH,zI,zJ, hbd]
  apply call_eq (f := 18) (fn := Try.f18) (by kernel_rfl) (by rfl)
  ·exact awake_v _
  simp (maxSteps := 1000000) only [VL,VM,↓VG,reduceIte,reduceCtorEq,zA,zB,zC,zD,zE,zF,zG,zH,zI,zJ]
  (repeat refine Ws ?_)
  refine W_ret ?_
  try simp only [thenQ, blockQ]
  exact ⟨.inr rfl, rfl, ⟨Z, hZ1, hZ3⟩, M.H, LE, hLE, rfl, [vb true], rfl, vb true, rfl, by simp [refs], rfl, rfl⟩
end Go.Proofs.Ytmagiabapakhcaa.Vm
