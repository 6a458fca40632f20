/- A part of the proofs about the chapter of the doors; it states no condition of its own. -/
import Derived.Test.YtmagiabapakhcaaB29
import Derived.Test.YtmagiabapakhcaaB38
import Derived.Test.YtmagiabapakhcaaB55
import Derived.Test.YtmagiabapakhcaaB56
import Derived.Test.YtmagiabapakhcaaB57
set_option linter.unusedVariables false
set_option linter.unusedSimpArgs false
open Int renaming reduceLE → zA, reduceLT → zB, reduceToNat → zC, reduceNeg → zD
open Nat renaming reduceLT → zE, reduceEqDiff → zF, reduceAdd → zG, reduceSub → zH, reduceMul → zI, reduceLeDiff → zJ
/- Spans are compared with spans that are written. (Vm) -/
namespace Go.Proofs.Ytmagiabapakhcaa.Vm
open Go Go.Proofs
theorem cellsS_slice : ∀ {S : List Sp} {i : Nat} {x : Sp}, S[i]? = some x → ((cellsS S).drop (i * 2)).take 2 = [vi x.lo, vi x.hi]
 | [], i, x, h => by simp at h
 | s :: S, 0, x, h => by
  simp only [List.getElem?_cons_zero, Option.some.injEq] at h
  subst h
  rfl
 | s :: S, i + 1, x, h => by
  rw [List.getElem?_cons_succ] at h
  rw [show (i + 1) * 2 = i * 2 + 1 + 1 by omega]
  exact cellsS_slice h
set_option maxHeartbeats 1000000 in
set_option maxRecDepth 8000 in
theorem sameSpans_b (a b : List (Sp)) (M : Mem) (sid : Nat) (hb : M.H[sid]? = some (.obj (cellsS b))) (ha : a.length ≤ 1000000) : VC Try.prog 26 [spsV a, .bf sid 0 b.length 2] M (fun r M' => M' = M ∧ r = vb (decide (a = b))) := by
 refine VC_own' T_ok (f := 26) (fn := Try.f26) (by kernel_rfl) rfl Try.ntmps26 (by rfl) (by rfl) ?_
 ((repeat refine Ws ?_);refine Wr ?_)
 simp (maxSteps := 1000000) only [VL,VM,↓VG,reduceIte,reduceCtorEq,zA,zB,zC,zD,zE,zF,zG,zH,zI,zJ]
 ((repeat refine Ws ?_);refine Wr ?_)
 have h0 : decide ((a.length : Int) = (b.length : Int)) = eqTo a b 0 := by rw [eqTo_zero]; by_cases e : a.length = b.length <;> simp [e] <;> omega
 simp (maxSteps := 1000000) only [VL,VM,↓VG,reduceIte,reduceCtorEq,zA,zB,zC,zD,zE,zF,zG,zH,zI,zJ, h0]
 ((repeat refine Ws ?_);refine Wr ?_)
 simp (maxSteps := 1000000) only [VL,VM,↓VG,reduceIte,reduceCtorEq,zA,zB,zC,zD,zE,zF,zG,zH,zI,zJ]
 ((repeat refine Ws ?_);refine W_block ?_; (repeat refine Ws ?_)); refine W_loopS (fun i : Nat => [(0, spsV a), (1, .bf sid 0 b.length 2), (5, vb (eqTo a b i)), (6, vi i)]) (fun _ => M) (fun i => a.length - i) (fun i => i ≤ a.length) 0 (Nat.zero_le _) ⟨rfl, rfl, rfl, rfl, trivial⟩ rfl ?_
 intro i hi
 have k1 : -9223372036854775808 ≤ (i : Int) + 1 ∧ (i : Int) + 1 < 9223372036854775808 := by omega
 ((repeat refine Ws ?_);refine Wr ?_)
 cases he : eqTo a b i
 ·simp (maxSteps := 1000000) only [VL,VM,↓VG,reduceIte,reduceCtorEq,zA,zB,zC,zD,zE,zF,zG,zH,zI,zJ]
  ((repeat refine Ws ?_);refine Wf (by first|rfl|simp only [EV,zF,reduceIte]) ?_)
  ((repeat refine Ws ?_);refine W_exit ?_)
  simp (maxSteps := 1000000) only [VL,VM,↓VG,reduceIte,reduceCtorEq,zA,zB,zC,zD,zE,zF,zG,zH,zI,zJ]
  ((repeat refine Ws ?_);refine Wr ?_)
  simp (maxSteps := 1000000) only [VL,VM,↓VG,reduceIte,reduceCtorEq,zA,zB,zC,zD,zE,zF,zG,zH,zI,zJ]
  (repeat refine Ws ?_)
  refine W_ret ?_
  try simp only [thenQ, blockQ]
  refine own_ret10 rfl ?_ (by rfl)
  simp only [get_cons, frz, vtup, Nat.reduceEqDiff, if_true, if_false, reduceIte]
  rw [eqTo_no he]
 rcases Nat.lt_or_ge i a.length with hlt | hge
 ·have k2 : ((i : Int) < (a.length : Int)) = True := eq_true (by omega)
  have hl : a.length = b.length := by
   unfold eqTo at he
   simp only [Bool.and_eq_true, decide_eq_true_eq] at he
   exact he.1
  have hx : a[i]? = some a[i] := List.getElem?_eq_getElem hlt
  have hy : b[i]? = some (b[i]'(by omega)) := List.getElem?_eq_getElem (by omega)
  have hmx := List.getElem_mem hlt
  generalize a[i] = x at hx hmx
  generalize b[i]'(by omega) = y at hy
  have hx' := map_at (f := spP) hx
  have d1 := cellsS_slice hy
  have hbl : (i < b.length) = True := eq_true (by omega)
  have hcl : (i * 2 + 2 ≤ (cellsS b).length) = True := eq_true (by rw [cellsS_len]; omega)
  have hs := eqTo_succ hx hy he
  simp (maxSteps := 1000000) only [VL,VM,↓VG,reduceIte,reduceCtorEq,zA,zB,zC,zD,zE,zF,zG,zH,zI,zJ, k2]
  ((repeat refine Ws ?_);refine Wt (by first|rfl|simp only [EV,zF,reduceIte]) ?_)
  ((repeat refine Ws ?_);refine W_skip ?_)
  simp (maxSteps := 1000000) only [VL,VM,↓VG,reduceIte,reduceCtorEq,zA,zB,zC,zD,zE,zF,zG,zH,zI,zJ]
  ((repeat refine Ws ?_);refine W_block ?_)
  (repeat refine Ws ?_)
  refine W_drawP T_ok [] (by kernel_rfl) (by kernel_rfl) ?_
  generalize hi : mkPlan _ = infs
  cbv at hi
  subst hi
  simp (maxSteps := 1000000) only [VL,VM,↓VG,reduceIte,reduceCtorEq,zA,zB,zC,zD,zE,zF,zG,zH,zI,zJ, hx', hb, hbl, hcl, d1]
  ((repeat refine Ws ?_);refine Wr ?_)
  simp (maxSteps := 1000000) only [VL,VM,↓VG,reduceIte,reduceCtorEq,zA,zB,zC,zD,zE,zF,zG,zH,zI,zJ, k1]
  refine LoopK.mk (i + 1) (by omega) (by omega) ⟨rfl, rfl, ?_, rfl, trivial⟩ rfl
  rw [hs]; rfl
 have k2 : ((i : Int) < (a.length : Int)) = False := eq_false (by omega)
 simp (maxSteps := 1000000) only [VL,VM,↓VG,reduceIte,reduceCtorEq,zA,zB,zC,zD,zE,zF,zG,zH,zI,zJ, k2]
 ((repeat refine Ws ?_);refine Wf (by first|rfl|simp only [EV,zF,reduceIte]) ?_)
 ((repeat refine Ws ?_);refine W_exit ?_)
 simp (maxSteps := 1000000) only [VL,VM,↓VG,reduceIte,reduceCtorEq,zA,zB,zC,zD,zE,zF,zG,zH,zI,zJ]
 ((repeat refine Ws ?_);refine Wr ?_)
 simp (maxSteps := 1000000) only [VL,VM,↓VG,reduceIte,reduceCtorEq,zA,zB,zC,zD,zE,zF,zG,zH,zI,zJ]
 (repeat refine Ws ?_)
 refine W_ret ?_
 try simp only [thenQ, blockQ]
 refine own_ret10 rfl ?_ (by rfl)
 simp only [get_cons, frz, vtup, Nat.reduceEqDiff, if_true, if_false, reduceIte]
 have hi3 : i = a.length := by omega
 subst hi3
 rw [← eqTo_end, he]
end Go.Proofs.Ytmagiabapakhcaa.Vm

/- The law that the tallies of all numbers are the spans, on values. (Vm) -/
namespace Go.Proofs.Ytmagiabapakhcaa.Vm
open Go Go.Proofs
attribute [local irreducible] castF castU fromF fromU oneF oneU onceF
theorem W_thenY {P : Program} {cx : Cx} {e : Env} {M : Mem} {D : List Nat} {Q : PQ} {c : Code} {σ : Type} {Kn : Env → Mem → List Nat → Prop} (E : σ → Env) (N : σ → Mem) (good : σ → Prop) (h1 : WCode P cx c e M D (fun ex e' M' D' => ex = .normal ∧ D' = D ∧ ∃ s, good s ∧ M' = N s ∧ Sub (E s) e')) (h2 : ∀ s e', good s → Sub (E s) e' → Kn e' (N s) D) : WCode P cx c e M D (thenQ Kn Q) :=
 h1.mono (by rintro ex e' M' D' ⟨rfl, rfl, s, hg, rfl, hS⟩; exact h2 s e' hg hS)
structure AllOk (h : Ho) : Prop where
 V : HV h
 N : ∀ c ∈ h.counts, NarC c
 f : h.first.hi - h.first.lo ≤ 6
 t : h.ticks ≤ 3
structure LikeH (h0 h : Ho) : Prop where
 holds : h.holds = h0.holds
 doors : h.doors = h0.doors
 first : h.first = h0.first
 ticks : h.ticks = h0.ticks
 counts : h.counts.length = h0.counts.length
abbrev cellsR (l : List (List PV)) : List VV := (rowsV l).flatten
theorem cellsR_put : ∀ (cs : List Co) (i : Nat) (c : Co) (o : Sp), cs[i]? = some c → (cellsR (cs.map coP)).take (i * 6 + 4) ++ vi o.lo :: vi o.hi :: (cellsR (cs.map coP)).drop (i * 6 + 6) = cellsR ((cs.set i { c with o := o }).map coP)
 | [], i, c, o, h => by simp at h
 | x :: cs, 0, c, o, h => by
  simp only [List.getElem?_cons_zero, Option.some.injEq] at h
  subst h
  simp [cellsR, rowsV]
 | x :: cs, i + 1, c, o, h => by
  rw [List.getElem?_cons_succ] at h
  have ih := cellsR_put cs i c o h
  have e : ∀ x cs, cellsR ((x :: cs).map coP) = vi x.tick :: vi x.door :: vi x.i.lo :: vi x.i.hi :: vi x.o.lo :: vi x.o.hi :: cellsR (cs.map coP) := fun x cs => rfl
  rw [List.set_cons_succ, e, e, show (i + 1) * 6 + 4 = i * 6 + 4 + 1 + 1 + 1 + 1 + 1 + 1 by omega, show (i + 1) * 6 + 6 = i * 6 + 6 + 1 + 1 + 1 + 1 + 1 + 1 by omega]
  simp only [List.take_succ_cons, List.drop_succ_cons, List.cons_append]
  rw [ih]
theorem cellsR_len : ∀ cs : List Co, (cellsR (cs.map coP)).length = cs.length * 6
 | [] => rfl
 | x :: cs => by
  have e : ∀ x cs, cellsR ((x :: cs).map coP) = vi x.tick :: vi x.door :: vi x.i.lo :: vi x.i.hi :: vi x.o.lo :: vi x.o.hi :: cellsR (cs.map coP) := fun x cs => rfl
  rw [e]
  simp only [List.length_cons, cellsR_len cs]
  omega
theorem keysOk_keys : ∀ (cs ds bs es : List Co), cs.map (fun c => (c.tick, c.door)) = ds.map (fun c => (c.tick, c.door)) → bs.map (fun c => (c.tick, c.door)) = es.map (fun c => (c.tick, c.door)) → keysOk bs cs → keysOk es ds
 | [], [], _, _, _, _, _ => trivial
 | [], _ :: _, _, _, h, _, _ => by simp at h
 | _ :: _, [], _, _, h, _, _ => by simp at h
 | c :: cs, d :: ds, bs, es, h, hb, hk => by
  simp only [List.map_cons, List.cons.injEq, Prod.mk.injEq] at h
  obtain ⟨⟨h1, h2⟩, h3⟩ := h
  refine ⟨?_, keysOk_keys cs ds (bs ++ [c]) (es ++ [d]) h3 (by simp [hb, h1, h2]) hk.2⟩
  have e : ∀ (l : List Co) (c : Co), l.any (sameKey c) = (l.map fun c => (c.tick, c.door)).any fun p => decide (p.1 = c.tick) && decide (p.2 = c.door) := fun l c => by
   rw [List.any_map]; rfl
  have := hk.1
  rw [e] at this ⊢
  rw [← hb, ← h1, ← h2]
  exact this
theorem AllOk.set {h : Ho} (ok : AllOk h) {i : Nat} {c : Co} (hx : h.counts[i]? = some c) {o : Sp} (ho : SpOk o) (hw : o.hi - o.lo ≤ 6) : AllOk { h with counts := h.counts.set i { c with o := o } } := by
 have hcm := List.mem_of_getElem? hx
 have v := ok.V.counts c hcm
 have nn := ok.N c hcm
 refine ⟨⟨ok.V.n0, ok.V.n1, ok.V.holds, ok.V.d1, ok.V.doors, ok.V.first, ok.V.t0, ok.V.t1, by simpa using ok.V.c1, fun x hm => ?_, ?_⟩, fun x hm => ?_, ok.f, ok.t⟩
 ·rcases List.mem_or_eq_of_mem_set hm with q | rfl
  ·have w := ok.V.counts x q
   exact ⟨w.t0, w.t1, w.d0, w.d1, w.k, w.i, w.o⟩
  ·exact ⟨v.t0, v.t1, v.d0, v.d1, v.k, v.i, ho⟩
 ·refine keysOk_keys h.counts _ [] [] ?_ rfl ok.V.keys
  refine List.ext_getElem? fun j => ?_
  rw [List.getElem?_map, List.getElem?_map, List.getElem?_set]
  by_cases e : i = j
  ·subst e
   rw [if_pos rfl, hx]
   split
   ·rfl
   ·rename_i hl
    exact absurd (List.getElem?_eq_some_iff.1 hx).1 hl
  ·rw [if_neg e]
 ·rcases List.mem_or_eq_of_mem_set hm with q | rfl
  ·exact ok.N x q
  ·exact ⟨nn.1, hw⟩
def partA (C : Nat → Sp) (T : Nat) (lo : Int) (j : Nat) : List (List Int) := ((List.range j).map fun j => lo + (j : Nat)).flatMap fun t => seqs C T [t]
theorem partA_succ (C : Nat → Sp) (T : Nat) (lo : Int) (j : Nat) : partA C T lo (j + 1) = partA C T lo j ++ seqs C T [lo + (j : Nat)] := by
 unfold partA
 rw [List.range_succ, List.map_append, List.flatMap_append]
 simp
theorem partA_mono (C : Nat → Sp) (T : Nat) (lo : Int) {j k : Nat} (h : j ≤ k) : (partA C T lo j).length ≤ (partA C T lo k).length := by
 induction k with
 | zero => rw [Nat.le_zero.1 h]; exact Nat.le_refl _
 | succ k ih =>
  rcases Nat.lt_or_ge j (k + 1) with q | q
  ·have := ih (by omega)
   rw [partA_succ, List.length_append]
   omega
  ·rw [show j = k + 1 by omega]; exact Nat.le_refl _
theorem partA_all (first : Sp) (C : Nat → Sp) (T : Nat) : partA C T first.lo (first.hi + 1 - first.lo).toNat = allS first C T := rfl
theorem partA_len {C : Nat → Sp} {T : Nat} {lo : Int} {j : Nat} : ∀ x ∈ partA C T lo j, x.length = T + 1 := fun x hx => by
 unfold partA at hx
 rw [List.mem_flatMap] at hx
 obtain ⟨d, _, hx⟩ := hx
 have := seqs_len T _ x hx
 rw [this]; simp; omega
theorem allS_few {h : Ho} (ok : AllOk h) {C : Nat → Sp} (hC : C = fun t : Nat => chg h.counts (t : Int)) : (allS h.first C h.ticks.toNat).length ≤ 7 * 300 ^ 3 := by
 have hc : ∀ t, (C t).hi ≤ (C t).lo + 288 := fun t => by rw [hC]; exact (chg_nar ok.V ok.N t).2
 have h1 := flatMap_few (f := fun t => seqs C h.ticks.toNat [t]) (k := 300 ^ h.ticks.toNat) (dlsI h.first) fun t _ => seqs_few hc _ _
 refine Nat.le_trans h1 ?_
 have h2 := ok.f
 have h3 := ok.t
 refine Nat.mul_le_mul (by rw [dlsI_len]; omega) (Nat.pow_le_pow_right (by omega) (by omega))
theorem cellsS_zero : ∀ n : Nat, (List.replicate n [vi 0, vi 0]).flatten = cellsS (List.replicate n ⟨0, 0⟩)
 | 0 => rfl
 | n + 1 => by rw [List.replicate_succ, List.flatten_cons, cellsS_zero n, List.replicate_succ]; rfl
set_option maxHeartbeats 8000000 in
set_option maxRecDepth 100000 in
theorem all_law_v (xs : List Int) (M : Mem) (hl : xs.length ≤ maxLen) : VC Try.prog 7 [intsV xs] M (fun r M' => M' = M ∧ r = vb true) := by
 refine VC_own' T_ok (f := 7) (fn := Try.f7) (by kernel_rfl) rfl Try.ntmps7 (by rfl) (by rfl) ?_
 ((repeat refine Ws ?_);refine Wr ?_)
 simp (maxSteps := 1000000) only [VL,VM,↓VG,reduceIte,reduceCtorEq,zA,zB,zC,zD,zE,zF,zG,zH,zI,zJ]
 ((repeat refine Ws ?_);refine Wr ?_)
 simp (maxSteps := 1000000) only [VL,VM,↓VG,reduceIte,reduceCtorEq,zA,zB,zC,zD,zE,zF,zG,zH,zI,zJ]
 apply call_eq (f := 20) (fn := Try.f20) (by kernel_rfl) (by rfl)
 ·exact dieOf_v xs M hl
 obtain ⟨H0, hH0⟩ : ∃ H0, H0 = M.H ++ [VObj.dead] := ⟨_, rfl⟩
 obtain ⟨d, hdd⟩ : ∃ d, d = M.H.length := ⟨_, rfl⟩
 have hd : d < H0.length := by rw [hH0, hdd]; simp
 have hlen0 : H0.length = M.H.length + 1 := by rw [hH0]; simp
 rw [← hH0, ← hdd]
 have tail : ∀ u L, DH H0 d u L = M.H ++ (.obj [uv u] :: L) := fun u L => by rw [hH0, hdd]; exact DH_tail M u L
 generalize dieU xs = u0
 simp (maxSteps := 1000000) only [VL,VM,↓VG,reduceIte,reduceCtorEq,zA,zB,zC,zD,zE,zF,zG,zH,zI,zJ]
 ((repeat refine Ws ?_);refine Wr ?_)
 simp (maxSteps := 1000000) only [VL,VM,↓VG,reduceIte,reduceCtorEq,zA,zB,zC,zD,zE,zF,zG,zH,zI,zJ]
 refine fn_call (f := 19) (fn := Try.f19) (by kernel_rfl) (by rfl) ?_
 refine (houseOf_own (M := ⟨DH H0 d u0 [], M.lg⟩) (DH_die hd) 2 2 3 6 (by omega) (by omega) (by omega) (by omega)).mono ?_
 rintro _ _ ⟨h0, ts, u1, jk, rfl, rfl, m, hw⟩
 rw [DH_setd, DH_len0]
 rw [DH_app hd]
 simp (maxSteps := 1000000) only [VL,VM,↓VG,reduceIte,reduceCtorEq,zA,zB,zC,zD,zE,zF,zG,zH,zI,zJ, DH_app hd, DH_len, DH_len0, DH_get hd, DH_get0 hd, DH_set hd, DH_set0 hd, DH_setd, DH_die hd]
 obtain ⟨Z, hZ1, hZ2⟩ := addLg_Y (H0.length + (jk.length + 5)) [H0.length + 2, H0.length + 3, H0.length + 4] M.lg
 generalize addLg (H0.length + (jk.length + 5)) [H0.length + 2, H0.length + 3, H0.length + 4] M.lg = lgB at hZ1 ⊢
 obtain ⟨n, hn⟩ : ∃ n, n = H0.length := ⟨_, rfl⟩
 obtain ⟨b, hb⟩ : ∃ b, b = n + (jk.length + 5) := ⟨_, rfl⟩
 obtain ⟨B, hB⟩ : ∃ B : Int → VObj → VObj → VObj → List VV → List VObj → List VObj, B = fun u I D C x junk => DH H0 d u (.dead :: .dead :: I :: D :: C :: (jk ++ (.obj x :: junk))) := ⟨_, rfl⟩
 have gB : ∀ u I D C x junk, (B u I D C x junk)[b]? = some (.obj x) := fun u I D C x junk => by
  rw [hB, hb, hn]
  simp only
  rw [DH_get hd, List.getElem?_cons_succ, List.getElem?_cons_succ, List.getElem?_cons_succ, List.getElem?_cons_succ, List.getElem?_cons_succ, hget0]; rfl
 have sB : ∀ u I D C x junk x', (B u I D C x junk).set b (.obj x') = B u I D C x' junk := fun u I D C x junk x' => by
  rw [hB, hb, hn]
  simp only
  rw [DH_set hd, List.set_cons_succ, List.set_cons_succ, List.set_cons_succ, List.set_cons_succ, List.set_cons_succ, hset0]; rfl
 have gC : ∀ u I D C x junk, (B u I D C x junk)[n + 4]? = some C := fun u I D C x junk => by
  rw [hB, hn]
  simp only
  rw [DH_get hd]; rfl
 have sC : ∀ u I D C x junk C', (B u I D C x junk).set (n + 4) C' = B u I D C' x junk := fun u I D C x junk C' => by
  rw [hB, hn]
  simp only
  rw [DH_set hd]; rfl
 have gI : ∀ u I D C x junk, (B u I D C x junk)[n + 2]? = some I := fun u I D C x junk => by
  rw [hB, hn]
  simp only
  rw [DH_get hd]; rfl
 have sI : ∀ u I D C x junk I', (B u I D C x junk).set (n + 2) I' = B u I' D C x junk := fun u I D C x junk C' => by
  rw [hB, hn]
  simp only
  rw [DH_set hd]; rfl
 have gD : ∀ u I D C x junk, (B u I D C x junk)[n + 3]? = some D := fun u I D C x junk => by
  rw [hB, hn]
  simp only
  rw [DH_get hd]; rfl
 have sD : ∀ u I D C x junk D', (B u I D C x junk).set (n + 3) D' = B u I D' C x junk := fun u I D C x junk C' => by
  rw [hB, hn]
  simp only
  rw [DH_set hd]; rfl
 have eB : ∀ u I D C x, ∃ L, B u I D C x [] = M.H ++ L := fun u I D C x => ⟨_, by rw [hB]; exact tail _ _⟩
 have lB : ∀ u I D C x, (B u I D C x []).length = b + 1 := fun u I D C x => by rw [hB, hb, hn]; simp only; rw [DH_len]; simp; omega
 have e0 : DH H0 d u1 (VObj.dead :: VObj.dead :: VObj.obj (rowsV (List.map intP h0.holds)).flatten :: VObj.obj (rowsV (List.map doP h0.doors)).flatten :: VObj.obj (rowsV (List.map coP h0.counts)).flatten :: (jk ++ [VObj.obj (bufH h0 (H0.length + 2))])) = B u1 (.obj (cellsR (h0.holds.map intP))) (.obj (cellsR (h0.doors.map doP))) (.obj (cellsR (h0.counts.map coP))) (bufH h0 (n + 2)) [] := by rw [hB, hn]
 rw [e0, ← hn, ← hb]
 have oB : ∀ u I D C x junk lg, VC Try.prog 44 [.ptr d 0, vi 2] ⟨B u I D C x junk, lg⟩ (fun r M' => M' = ⟨B (castU u 2) I D C x junk, lg⟩ ∧ r = vb (onceF u 2)) := fun u I D C x junk lg => by rw [hB]; exact once_c hd u 2 lg (by omega)
 have cB : ∀ u I D C x junk lg k, 1 ≤ k ∧ k ≤ 1000 → VC Try.prog 45 [.ptr d 0, vi k] ⟨B u I D C x junk, lg⟩ (fun r M' => M' = ⟨B (castU u k) I D C x junk, lg⟩ ∧ r = vi (castF u k)) := fun u I D C x junk lg k hk => by rw [hB]; exact cast_c hd u k lg (by omega)
 have mV := m.V
 have c24 := mV.c1
 have ok0 : AllOk h0 := ⟨mV, hw.counts, hw.first, m.t⟩
 clear e0 hB
 (repeat refine Ws ?_)
 refine W_thenY (σ := Int × Bool) (fun s => [(0, intsV xs), (2, vb false), (3, .ptr d 0), (4, .ptr b 0), (26, vb s.2)]) (fun s => ⟨B s.1 (.obj (cellsR (h0.holds.map intP))) (.obj (cellsR (h0.doors.map doP))) (.obj (cellsR (h0.counts.map coP))) (bufH h0 (n + 2)) [], lgB⟩) (fun s => s.2 = true → 0 < h0.counts.length) ?_ ?_
 ·((repeat refine Ws ?_);refine Wr ?_)
  by_cases hc0 : 0 < h0.counts.length
  ·have k1 : ((0 : Int) < (h0.counts.length : Int)) = True := eq_true (by omega)
   simp (maxSteps := 1000000) only [VL,VM,↓VG,reduceIte,reduceCtorEq,zA,zB,zC,zD,zE,zF,zG,zH,zI,zJ, gB, k1]
   apply call_eq (f := 44) (fn := Try.f44) (by kernel_rfl) (by rfl)
   ·exact oB _ _ _ _ _ _ _
   simp (maxSteps := 1000000) only [VL,VM,↓VG,reduceIte,reduceCtorEq,zA,zB,zC,zD,zE,zF,zG,zH,zI,zJ]
   exact ⟨(castU u1 2, onceF u1 2), fun _ => hc0, rfl, rfl, rfl, rfl, rfl, rfl, trivial⟩
  ·have k1 : ((0 : Int) < (h0.counts.length : Int)) = False := eq_false (by omega)
   simp (maxSteps := 1000000) only [VL,VM,↓VG,reduceIte,reduceCtorEq,zA,zB,zC,zD,zE,zF,zG,zH,zI,zJ, gB, k1]
   exact ⟨(u1, false), (by intro q; cases q), rfl, rfl, rfl, rfl, rfl, rfl, trivial⟩
 rintro ⟨u2, yes⟩ e1 hyes hS1
 refine WCode.weak (e' := [(0, intsV xs), (2, vb false), (3, .ptr d 0), (4, .ptr b 0), (26, vb yes)]) ?_ (Sub.ok hS1)
 simp only at hyes
 clear hS1 e1
 (repeat refine Ws ?_)
 refine W_thenY (σ := Int × Ho) (fun _ => [(0, intsV xs), (2, vb false), (3, .ptr d 0), (4, .ptr b 0)]) (fun s => ⟨B s.1 (.obj (cellsR (h0.holds.map intP))) (.obj (cellsR (h0.doors.map doP))) (.obj (cellsR (s.2.counts.map coP))) (bufH h0 (n + 2)) [], lgB⟩) (fun s => AllOk s.2 ∧ LikeH h0 s.2) ?_ ?_
 ·cases yes
  ·simp (maxSteps := 1000000) only [VL,VM,↓VG,reduceIte,reduceCtorEq,zA,zB,zC,zD,zE,zF,zG,zH,zI,zJ]
   ((repeat refine Ws ?_);refine Wf (by first|rfl|simp only [EV,zF,reduceIte]) ?_)
   ((repeat refine Ws ?_);refine W_skip ?_)
   exact ⟨rfl, rfl, (u2, h0), ⟨ok0, ⟨rfl, rfl, rfl, rfl, rfl⟩⟩, rfl, rfl, rfl, rfl, rfl, trivial⟩
  have hc0 := hyes rfl
  simp (maxSteps := 1000000) only [VL,VM,↓VG,reduceIte,reduceCtorEq,zA,zB,zC,zD,zE,zF,zG,zH,zI,zJ]
  ((repeat refine Ws ?_);refine Wt (by first|rfl|simp only [EV,zF,reduceIte]) ?_)
  ((repeat refine Ws ?_);refine Wr ?_)
  simp (maxSteps := 1000000) only [VL,VM,↓VG,reduceIte,reduceCtorEq,zA,zB,zC,zD,zE,zF,zG,zH,zI,zJ]
  apply call_eq (f := 45) (fn := Try.f45) (by kernel_rfl) (by rfl)
  ·exact cB _ _ _ _ _ _ _ _ (by omega)
  have c1 := castF_range (u := u2) (n := 12) (by omega)
  generalize castF u2 12 = a at c1 ⊢
  generalize castU u2 12 = u3
  have c2 := castF_range (u := u3) (n := (h0.counts.length : Int)) (by omega)
  have hk : 1 ≤ (h0.counts.length : Int) ∧ (h0.counts.length : Int) ≤ 1000 := by omega
  have hc1 := fun u => cB u (.obj (cellsR (h0.holds.map intP))) (.obj (cellsR (h0.doors.map doP))) (.obj (cellsR (h0.counts.map coP))) (bufH h0 (n + 2)) [] lgB (h0.counts.length : Int) hk
  have hc1' := hc1 u3
  obtain ⟨i, hi⟩ : ∃ i : Nat, castF u3 (h0.counts.length : Int) = (i : Int) := ⟨(castF u3 (h0.counts.length : Int)).toNat, by omega⟩
  rw [hi] at c2 hc1'
  have hil : i < h0.counts.length := by omega
  have c3 := castF_range (u := castU u3 (h0.counts.length : Int)) (n := 2) (by omega)
  generalize castU u3 (h0.counts.length : Int) = u4 at c3 hc1'
  have hc2 := cB u4 (.obj (cellsR (h0.holds.map intP))) (.obj (cellsR (h0.doors.map doP))) (.obj (cellsR (h0.counts.map coP))) (bufH h0 (n + 2)) [] lgB 2 (by omega)
  generalize castF u4 2 = z at c3 hc2
  generalize castU u4 2 = u5 at hc2
  have hx : h0.counts[i]? = some h0.counts[i] := List.getElem?_eq_getElem hil
  generalize h0.counts[i] = c at hx
  have hput := cellsR_put h0.counts i c ⟨a, a + z⟩ hx
  have hcl : (cellsR (h0.counts.map coP)).length = h0.counts.length * 6 := cellsR_len _
  have ka : -9223372036854775808 ≤ a + z ∧ a + z < 9223372036854775808 := by omega
  have k5 : (i < h0.counts.length) = True := eq_true hil
  have k6 : (i * 6 + 4 + 2 ≤ h0.counts.length * 6) = True := eq_true (by omega)
  have okN : AllOk { h0 with counts := h0.counts.set i { c with o := ⟨a, a + z⟩ } } := AllOk.set ok0 hx ⟨by simp only; omega, by simp only; omega, by simp only; omega⟩ (by simp only; omega)
  simp only at hput
  generalize hCC : cellsR (h0.counts.map coP) = CC at hput hcl hc1' hc2 ⊢
  generalize cellsR (h0.holds.map intP) = II at hc1' hc2 ⊢
  generalize cellsR (h0.doors.map doP) = DD at hc1' hc2 ⊢
  clear hi hc1 cB oB
  simp (maxSteps := 1000000) only [VL,VM,↓VG,reduceIte,reduceCtorEq,zA,zB,zC,zD,zE,zF,zG,zH,zI,zJ]
  (repeat refine Ws ?_)
  refine W_drawP T_ok [] (by kernel_rfl) (by kernel_rfl) ?_
  generalize hi : mkPlan _ = infs
  cbv at hi
  subst hi
  simp (maxSteps := 1000000) only [VL,VM,↓VG,reduceIte,reduceCtorEq,zA,zB,zC,zD,zE,zF,zG,zH,zI,zJ, gB, gC, sC]
  apply call_d (f := 45) (fn := Try.f45) (by kernel_rfl) (by rfl)
  ·exact hc1'
  simp (maxSteps := 1000000) only [VL,VM,↓VG,reduceIte,reduceCtorEq,zA,zB,zC,zD,zE,zF,zG,zH,zI,zJ, gB, gC, sC]
  apply call_d (f := 45) (fn := Try.f45) (by kernel_rfl) (by rfl)
  ·exact hc2
  simp (maxSteps := 1000000) only [VL,VM,↓VG,reduceIte,reduceCtorEq,zA,zB,zC,zD,zE,zF,zG,zH,zI,zJ, gB, gC, sC, ka]
  apply call_d (f := 46) (fn := Try.f46) (by kernel_rfl) (by rfl)
  ·exact spanl_v a (a + z) _
  simp (maxSteps := 1000000) only [VL,VM,↓VG,reduceIte,reduceCtorEq,zA,zB,zC,zD,zE,zF,zG,zH,zI,zJ, gB, gC, sC, ka, k5, k6, hcl]
  refine ⟨(u5, { h0 with counts := h0.counts.set i { c with o := ⟨a, a + z⟩ } }), ⟨okN, ⟨rfl, rfl, rfl, rfl, by simp⟩⟩, ?_, rfl, rfl, rfl, rfl, trivial⟩
  show (⟨_, lgB⟩ : Mem) = _
  rw [hput]
 rintro ⟨u6, h⟩ e2 ⟨ok, lk⟩ hS2
 refine WCode.weak (e' := [(0, intsV xs), (2, vb false), (3, .ptr d 0), (4, .ptr b 0)]) ?_ (Sub.ok hS2)
 simp only at ok lk
 clear hS2 e2 hyes ok0
 rw [← lk.holds, ← lk.doors]
 refine W_frz1 (id := n + 2) (n := h0.holds.length) (k := 1) (o := b) (j := 0) (xs := h.holds.map intP) (by rw [gI]; simp [cellsR, rowsV, List.map_flatten]) (gB _ _ _ _ _ _) rfl (by simp) (by rw [List.length_map, lk.holds]) (by omega) ?_
 simp only [sI, sB, List.set_cons_zero]
 refine W_frz1 (id := n + 3) (n := h0.doors.length) (k := 3) (o := b) (j := 1) (xs := h.doors.map doP) (by rw [gD]; simp [cellsR, rowsV, List.map_flatten]) (gB _ _ _ _ _ _) rfl (by simp) (by rw [List.length_map, lk.doors]) (by omega) ?_
 simp only [sD, sB, List.set_cons_zero, List.set_cons_succ]
 refine W_frz1 (id := n + 4) (n := h0.counts.length) (k := 6) (o := b) (j := 5) (xs := h.counts.map coP) (by rw [gC]; simp [cellsR, rowsV, List.map_flatten]) (gB _ _ _ _ _ _) rfl (by simp) (by rw [List.length_map, lk.counts]) (by omega) ?_
 simp only [sC, sB, List.set_cons_zero, List.set_cons_succ]
 rw [← lk.first, ← lk.ticks]
 obtain ⟨Hq, hHq⟩ : ∃ Hq, Hq = B u6 .dead .dead .dead (houseC h) [] := ⟨_, rfl⟩
 obtain ⟨L0, hL0⟩ := eB u6 .dead .dead .dead (houseC h)
 have hq1 := lB u6 .dead .dead .dead (houseC h)
 have hqb : Hq[b]? = some (.obj (houseC h)) := by rw [hHq]; exact gB _ _ _ _ _ _
 rw [← hHq] at hL0 hq1
 have e3 : B u6 VObj.dead VObj.dead VObj.dead [intsV h.holds, dosV h.doors, vi h.first.lo, vi h.first.hi, vi h.ticks, cosV h.counts] [] = Hq := hHq.symm
 rw [e3]
 clear e3 eB lB gB sB gC sC gI sI gD sD oB cB hHq
 clear B
 have hV := ok.V
 have t0 := hV.t0
 have t3 := ok.t
 have f0 := hV.first.lo0
 have f1 := hV.first.hi1
 have fle := hV.first.le
 have hn1 := hV.n1
 have hd1 := hV.d1
 have hc1 := hV.c1
 obtain ⟨T, hT⟩ : ∃ T, T = h.ticks.toNat := ⟨_, rfl⟩
 have hTI : h.ticks = (T : Int) := by omega
 obtain ⟨C, hC⟩ : ∃ C : Nat → Sp, C = fun t : Nat => chg h.counts (t : Int) := ⟨_, rfl⟩
 have few := allS_few ok hC
 have ti := tight h hV ok.N
 have tn := ti.none
 have tso := ti.some
 rw [← hC, ← hT] at tn tso
 rw [← hT] at few
 obtain ⟨v, e, hv, hv1, hv2, hv3, hv4, _⟩ := sameInside_v h
 ((repeat refine Ws ?_);refine Wr ?_)
 simp (maxSteps := 1000000) only [VL,VM,↓VG,reduceIte,reduceCtorEq,zA,zB,zC,zD,zE,zF,zG,zH,zI,zJ, hqb]
 apply call_eq (f := 22) (fn := Try.f22) (by kernel_rfl) (by rfl)
 ·exact Inside_v h _ (by omega) (by omega) (by omega)
 rw [hv]
 simp (maxSteps := 1000000) only [VL,VM,↓VG,reduceIte,reduceCtorEq,zA,zB,zC,zD,zE,zF,zG,zH,zI,zJ, hv1]
 have hqb2 : Hq[b]? = some (.obj [intsV h.holds, dosV h.doors, vi h.first.lo, vi h.first.hi, vi (T : Int), cosV h.counts]) := by rw [hqb, ← hTI]
 have kT : -9223372036854775808 ≤ (T : Int) + 1 ∧ (T : Int) + 1 < 9223372036854775808 := by omega
 have kN : ((T : Int) + 1).toNat = T + 1 := by omega
 have kN2 : 0 ≤ (T : Int) + 1 := by omega
 have q1 : ((T + 1) * 16 ≤ 140737488355328) = True := eq_true (by omega)
 have q2 : ((T + 1) ≤ 9223372036854775807) = True := eq_true (by omega)
 ((repeat refine Ws ?_);refine Wr ?_)
 simp (maxSteps := 1000000) only [VL,VM,↓VG,reduceIte,reduceCtorEq,zA,zB,zC,zD,zE,zF,zG,zH,zI,zJ, hqb2, kT, kN, kN2, q1, q2]
 rw [cellsS_zero]
 obtain ⟨S0, hS0⟩ : ∃ S0 : List Sp, S0 = List.replicate (T + 1) ⟨0, 0⟩ := ⟨_, rfl⟩
 have hS0l : S0.length = T + 1 := by rw [hS0]; simp
 rw [← hS0]
 obtain ⟨q, hq⟩ : ∃ q, q = Hq.length := ⟨_, rfl⟩
 obtain ⟨Hs, hHs⟩ : ∃ Hs, Hs = Hq ++ [VObj.obj (cellsS S0)] := ⟨_, rfl⟩
 have hsl : Hs.length = q + 1 := by rw [hHs, hq]; simp
 have hsq : q < Hs.length := by omega
 have hmem0 : Hq ++ [VObj.obj (cellsS S0)] = SH Hs q (cellsS S0) [] := by
  unfold SH
  rw [List.append_nil, hHs, hq]
  rw [List.set_append_right _ _ (Nat.le_refl _), Nat.sub_self, List.set_cons_zero]
 have gH : ∀ cs, (SH Hs q cs [])[b]? = some (.obj (houseC h)) := fun cs => by
  unfold SH
  rw [List.append_nil, List.getElem?_set_ne (by omega), hHs, List.getElem?_append_left (by omega)]
  exact hqb
 have gH2 : ∀ cs, (SH Hs q cs [])[b]? = some (.obj [intsV h.holds, dosV h.doors, vi h.first.lo, vi h.first.hi, vi (T : Int), cosV h.counts]) := fun cs => by rw [gH, ← hTI]
 have gS : ∀ cs, (SH Hs q cs [])[q]? = some (.obj cs) := fun cs => SH_own hsq
 have pM : ∀ cs, ∃ L, SH Hs q cs [] = M.H ++ L := fun cs => by
  unfold SH
  rw [List.append_nil, hHs, hL0, List.append_assoc, List.set_append_right _ _ (by rw [hq, hL0]; simp)]
  exact ⟨_, rfl⟩
 rw [hmem0, ← hq]
 have hall := partA_all h.first C T
 obtain ⟨w, hw2⟩ : ∃ w, w = (h.first.hi + 1 - h.first.lo).toNat := ⟨_, rfl⟩
 rw [← hw2] at hall
 rw [← hall] at few tn tso
 have few2 : (partA C T h.first.lo w).length ≤ 189000000 := few
 ((repeat refine Ws ?_);refine Wr ?_)
 simp (maxSteps := 1000000) only [VL,VM,↓VG,reduceIte,reduceCtorEq,zA,zB,zC,zD,zE,zF,zG,zH,zI,zJ]
 ((repeat refine Ws ?_);refine Wr ?_)
 simp (maxSteps := 1000000) only [VL,VM,↓VG,reduceIte,reduceCtorEq,zA,zB,zC,zD,zE,zF,zG,zH,zI,zJ, gH]
 ((repeat refine Ws ?_);refine W_block ?_; (repeat refine Ws ?_)); refine W_loopS (fun j : Nat => [(3, .ptr d 0), (4, .ptr b 0), (7, v), (8, vi e), (9, .bf q 0 (T + 1) 2), (10, vi (((partA C T h.first.lo j).foldl visit (0, S0)).1 : Nat)), (11, vi (h.first.lo + (j : Nat)))]) (fun j => ⟨SH Hs q (cellsS ((partA C T h.first.lo j).foldl visit (0, S0)).2) [], lgB⟩) (fun j => w - j) (fun j => j ≤ w) 0 (Nat.zero_le _) ⟨rfl, rfl, rfl, rfl, rfl, rfl, ?_, trivial⟩ rfl ?_
 ·simp [get_cons]
 intro j hj
 have k1 : -9223372036854775808 ≤ h.first.lo + (j : Int) + 1 ∧ h.first.lo + (j : Int) + 1 < 9223372036854775808 := by omega
 have hf1 := visit_fold1 (partA C T h.first.lo j) 0 S0
 have hf2 := visit_fold2 (partA C T h.first.lo j) 0 S0 hS0l fun x hx => partA_len x hx
 ((repeat refine Ws ?_);refine Wr ?_)
 rcases Nat.lt_or_ge j w with hlt | hge
 ·have k2 : (h.first.lo + (j : Int) ≤ h.first.hi) = True := eq_true (by omega)
  have hsc := partA_succ C T h.first.lo j
  have hmo := partA_mono C T h.first.lo (show j + 1 ≤ w by omega)
  rw [hsc, List.length_append] at hmo
  have hcall := tallies_v h hV C (fun t => by rw [hC]) (by rw [hC]; exact chg_Cb hV) T hsq [h.first.lo + (j : Int)] ((partA C T h.first.lo j).foldl visit (0, S0)).1 ((partA C T h.first.lo j).foldl visit (0, S0)).2 lgB (by simp only [List.length_cons, List.length_nil]; omega) (by simp) (by rw [hf2]; simp; omega) (by
   have e9 : lastI [h.first.lo + (j : Int)] = h.first.lo + (j : Int) := rfl
   rw [e9]
   simp only [List.length_cons, List.length_nil]
   omega) (by rw [hf1]; omega)
  have hfo : (partA C T h.first.lo (j + 1)).foldl visit (0, S0) = (seqs C T [h.first.lo + (j : Int)]).foldl visit (((partA C T h.first.lo j).foldl visit (0, S0)).1, ((partA C T h.first.lo j).foldl visit (0, S0)).2) := by rw [hsc, List.foldl_append]
  rw [← hfo, hf2] at hcall
  simp (maxSteps := 1000000) only [VL,VM,↓VG,reduceIte,reduceCtorEq,zA,zB,zC,zD,zE,zF,zG,zH,zI,zJ, gH, k2]
  ((repeat refine Ws ?_);refine Wt (by first|rfl|simp only [EV,zF,reduceIte]) ?_)
  ((repeat refine Ws ?_);refine W_skip ?_)
  simp (maxSteps := 1000000) only [VL,VM,↓VG,reduceIte,reduceCtorEq,zA,zB,zC,zD,zE,zF,zG,zH,zI,zJ]
  ((repeat refine Ws ?_);refine W_block ?_)
  ((repeat refine Ws ?_);refine Wr ?_)
  simp (maxSteps := 1000000) only [VL,VM,↓VG,reduceIte,reduceCtorEq,zA,zB,zC,zD,zE,zF,zG,zH,zI,zJ, gH]
  apply call_eq (f := 47) (fn := Try.f47) (by kernel_rfl) (by rfl)
  ·exact hcall
  simp (maxSteps := 1000000) only [VL,VM,↓VG,reduceIte,reduceCtorEq,zA,zB,zC,zD,zE,zF,zG,zH,zI,zJ]
  ((repeat refine Ws ?_);refine Wr ?_)
  simp (maxSteps := 1000000) only [VL,VM,↓VG,reduceIte,reduceCtorEq,zA,zB,zC,zD,zE,zF,zG,zH,zI,zJ, k1]
  refine LoopK.mk (j + 1) (by omega) hlt ⟨rfl, rfl, rfl, rfl, rfl, rfl, ?_, trivial⟩ rfl
  simp [get_cons, Int.add_assoc]
 obtain rfl : j = w := by omega
 have k2 : (h.first.lo + (j : Int) ≤ h.first.hi) = False := eq_false (by omega)
 simp (maxSteps := 1000000) only [VL,VM,↓VG,reduceIte,reduceCtorEq,zA,zB,zC,zD,zE,zF,zG,zH,zI,zJ, gH, k2]
 ((repeat refine Ws ?_);refine Wf (by first|rfl|simp only [EV,zF,reduceIte]) ?_)
 ((repeat refine Ws ?_);refine W_exit ?_)
 simp (maxSteps := 1000000) only [VL,VM,↓VG,reduceIte,reduceCtorEq,zA,zB,zC,zD,zE,zF,zG,zH,zI,zJ]
 have hZ3 : ∀ e ∈ Z, M.H.length ≤ e.1 := fun e he => by have := (hZ2 e he).1; omega
 have herr := houseErr_ok.2 hV
 have hR : insideR h = (match insideH h with
  | some l => .tup [spsV l, vi 0]
  | none => .tup [.p (.sl 0 []), vi 9]) := by unfold insideR; rw [if_pos herr]; cases insideH h <;> rfl
 rw [hv] at hR
 generalize partA C T h.first.lo j = L at hf1 hf2 tn tso
 cases hih : insideH h with
 | none =>
  rw [hih] at hR
  simp only [VV.tup.injEq, List.cons.injEq, VV.p.injEq, PV.int.injEq, and_true, true_and] at hR
  obtain ⟨rfl, rfl⟩ := hR
  have hLn := tn hih
  subst hLn
  have kn : (((List.foldl visit (0, S0) []).1 : Nat) : Int) = 0 := by rw [hf1]; rfl
  generalize List.foldl visit (0, S0) [] = st at kn ⊢
  obtain ⟨L1, hL1⟩ := pM (cellsS st.2)
  ((repeat refine Ws ?_);refine Wr ?_)
  simp (maxSteps := 1000000) only [VL,VM,↓VG,reduceIte,reduceCtorEq,zA,zB,zC,zD,zE,zF,zG,zH,zI,zJ, kn]
  ((repeat refine Ws ?_);refine Wt (by first|rfl|simp only [EV,zF,reduceIte]) ?_)
  ((repeat refine Ws ?_);refine Wr ?_)
  simp (maxSteps := 1000000) only [VL,VM,↓VG,reduceIte,reduceCtorEq,zA,zB,zC,zD,zE,zF,zG,zH,zI,zJ]
  apply call_eq (f := 18) (fn := Try.f18) (by kernel_rfl) (by rfl)
  ·exact awake_v _
  simp (maxSteps := 1000000) only [VL,VM,↓VG,reduceIte,reduceCtorEq,zA,zB,zC,zD,zE,zF,zG,zH,zI,zJ]
  (repeat refine Ws ?_)
  refine W_ret ?_
  try simp only [thenQ, blockQ]
  exact ⟨.inr rfl, rfl, ⟨Z, hZ1, hZ3⟩, M.H, L1, hL1, rfl, [vb true], rfl, vb true, rfl, by simp [refs], rfl, rfl⟩
 | some l =>
  rw [hih] at hR
  simp only [VV.tup.injEq, List.cons.injEq, VV.p.injEq, PV.int.injEq, and_true, true_and] at hR
  obtain ⟨rfl, rfl⟩ := hR
  obtain ⟨g1, g2⟩ := tso l hih
  have g3 := g2 S0 hS0l
  have hLp : 0 < L.length := List.length_pos_iff.2 g1
  have kn : ((((List.foldl visit (0, S0) L).1 : Nat) : Int) = 0) = False := eq_false (by rw [hf1]; omega)
  rw [g3] at hf2 ⊢
  generalize List.foldl visit (0, S0) L = st at kn ⊢
  obtain ⟨L1, hL1⟩ := pM (cellsS l)
  have hsm := sameSpans_b l l ⟨SH Hs q (cellsS l) [], lgB⟩ q (gS _) (by omega)
  rw [decide_eq_true rfl, hf2] at hsm
  ((repeat refine Ws ?_);refine Wr ?_)
  simp (maxSteps := 1000000) only [VL,VM,↓VG,reduceIte,reduceCtorEq,zA,zB,zC,zD,zE,zF,zG,zH,zI,zJ, kn]
  ((repeat refine Ws ?_);refine Wf (by first|rfl|simp only [EV,zF,reduceIte]) ?_)
  ((repeat refine Ws ?_);refine W_skip ?_)
  simp (maxSteps := 1000000) only [VL,VM,↓VG,reduceIte,reduceCtorEq,zA,zB,zC,zD,zE,zF,zG,zH,zI,zJ]
  ((repeat refine Ws ?_);refine Wr ?_)
  simp (maxSteps := 1000000) only [VL,VM,↓VG,reduceIte,reduceCtorEq,zA,zB,zC,zD,zE,zF,zG,zH,zI,zJ]
  apply call_eq (f := 26) (fn := Try.f26) (by kernel_rfl) (by rfl)
  ·exact hsm
  simp (maxSteps := 1000000) only [VL,VM,↓VG,reduceIte,reduceCtorEq,zA,zB,zC,zD,zE,zF,zG,zH,zI,zJ]
  apply call_eq (f := 18) (fn := Try.f18) (by kernel_rfl) (by rfl)
  ·exact awake_v _
  simp (maxSteps := 1000000) only [VL,VM,↓VG,reduceIte,reduceCtorEq,zA,zB,zC,zD,zE,zF,zG,zH,zI,zJ]
  (repeat refine Ws ?_)
  refine W_ret ?_
  try simp only [thenQ, blockQ]
  exact ⟨.inr rfl, rfl, ⟨Z, hZ1, hZ3⟩, M.H, L1, hL1, rfl, [vb true], rfl, vb true, rfl, by simp [refs], rfl, rfl⟩
end Go.Proofs.Ytmagiabapakhcaa.Vm
