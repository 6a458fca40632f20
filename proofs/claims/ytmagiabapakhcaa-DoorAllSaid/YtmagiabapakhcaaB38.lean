/- A part of the proofs about the chapter of the doors; it states no condition of its own. -/
import Derived.Test.YtmagiabapakhcaaB27
import Derived.Test.YtmagiabapakhcaaB29
import Derived.Test.YtmagiabapakhcaaB34
import Derived.Test.YtmagiabapakhcaaB35
import Derived.Test.YtmagiabapakhcaaB37
set_option linter.unusedVariables false
set_option linter.unusedSimpArgs false
open Int renaming reduceLE → zA, reduceLT → zB, reduceToNat → zC, reduceNeg → zD
open Nat renaming reduceLT → zE, reduceEqDiff → zF, reduceAdd → zG, reduceSub → zH, reduceMul → zI, reduceLeDiff → zJ
/- The reference: who may be inside, on values. (Vm) -/
-- TABLE TE
namespace Go.Proofs.Ytmagiabapakhcaa.Vm
open Go Go.Proofs
theorem chg_take {cs : List Co} {i : Nat} {c : Co} (hx : cs[i]? = some c) (t : Int) : chg (cs.take (i + 1)) t = if c.tick = t then addS (chg (cs.take i) t) (valS (some c)) else chg (cs.take i) t := by
 rw [List.take_add_one, hx]
 exact chg_snoc _ _ _
theorem chg_bdT {h : Ho} (V : HV h) (t : Int) : ∀ i : Nat, i ≤ h.counts.length → -10000 * (i : Int) ≤ (chg (h.counts.take i) t).lo ∧ (chg (h.counts.take i) t).lo ≤ 10000 * (i : Int) ∧ -10000 * (i : Int) ≤ (chg (h.counts.take i) t).hi ∧ (chg (h.counts.take i) t).hi ≤ 10000 * (i : Int)
 | 0, _ => by simp [chg]
 | i + 1, hi => by
  have h1 := chg_bdT V t i (by omega)
  have hx : h.counts[i]? = some (h.counts[i]'(by omega)) := List.getElem?_eq_getElem (by omega)
  have hv := V.counts _ (List.getElem_mem (l := h.counts) (n := i) (by omega))
  generalize h.counts[i]'(by omega) = c at hx hv
  obtain ⟨i0, i1, i2⟩ := hv.i
  obtain ⟨o0, o1, o2⟩ := hv.o
  rw [chg_take hx]
  push_cast
  split
  ·simp only [addS, valS]
   omega
  ·omega
set_option maxHeartbeats 1000000 in
set_option maxRecDepth 8000 in
theorem change_r (h : Ho) (V : HV h) (t : Int) (M : Mem) : VC Try.prog 88 [houseV h, vi t] M (fun r M' => M' = M ∧ r = spV (chg h.counts t)) := by
 have c1 := V.c1
 refine VC_own' TE_ok (f := 88) (fn := Try.f88) (by kernel_rfl) rfl Try.ntmps88 (by rfl) (by rfl) ?_
 ((repeat refine Ws ?_);refine W_region0 TE_ok ?_)
 simp (maxSteps := 1000000) only [xE_ty, xE_fn, xE_bin, xE_oi, xE_oc, xE_ok, VL,VM,↓VG,reduceIte,reduceCtorEq,zA,zB,zC,zD,zE,zF,zG,zH,zI,zJ]
 ((repeat refine Ws ?_);refine W_region0 TE_ok ?_)
 simp (maxSteps := 1000000) only [xE_ty, xE_fn, xE_bin, xE_oi, xE_oc, xE_ok, VL,VM,↓VG,reduceIte,reduceCtorEq,zA,zB,zC,zD,zE,zF,zG,zH,zI,zJ]
 ((repeat refine Ws ?_);refine W_region0 TE_ok ?_)
 simp (maxSteps := 1000000) only [xE_ty, xE_fn, xE_bin, xE_oi, xE_oc, xE_ok, VL,VM,↓VG,reduceIte,reduceCtorEq,zA,zB,zC,zD,zE,zF,zG,zH,zI,zJ]
 ((repeat refine Ws ?_);refine W_block ?_; (repeat refine Ws ?_)); refine W_loopS (fun s : ChkSt => [(0, houseV h), (1, vi t), (2, .ptr M.H.length 0), (4, .ptr (M.H.length + 1) 0), (5, .ptr (M.H.length + 2) 0), (6, vi s.i)]) (fun s => ⟨M.H ++ (.obj (houseC h) :: .obj [vi 0, vi 0] :: .obj [vi (chg (h.counts.take s.i) t).lo, vi (chg (h.counts.take s.i) t).hi] :: s.junk), M.lg⟩) (fun s => h.counts.length - s.i) (fun s => s.i ≤ h.counts.length) ⟨0, []⟩ (Nat.zero_le _) ⟨rfl, rfl, rfl, rfl, rfl, rfl, trivial⟩ rfl ?_
 rintro ⟨i, junk⟩ hi
 simp only at hi
 have k1 : -9223372036854775808 ≤ (i : Int) + 1 ∧ (i : Int) + 1 < 9223372036854775808 := by omega
 ((repeat refine Ws ?_);refine W_region0 TE_ok ?_)
 rcases Nat.lt_or_ge i h.counts.length with hlt | hge
 ·have k2 : ((i : Int) < (h.counts.length : Int)) = True := eq_true (by omega)
  have hx : h.counts[i]? = some h.counts[i] := List.getElem?_eq_getElem hlt
  have hv := V.counts _ (List.getElem_mem hlt)
  generalize h.counts[i] = c at hx hv
  have hx' := map_at (f := coP) hx
  have hst := chg_take hx t
  have hb := chg_bdT V t i hi
  obtain ⟨i0, i1, i2⟩ := hv.i
  obtain ⟨o0, o1, o2⟩ := hv.o
  generalize chg (h.counts.take i) t = z at hst hb ⊢
  have q1 : -9223372036854775808 ≤ z.lo + c.i.lo ∧ z.lo + c.i.lo < 9223372036854775808 := by omega
  have q2 : -9223372036854775808 ≤ z.lo + c.i.lo - c.o.hi ∧ z.lo + c.i.lo - c.o.hi < 9223372036854775808 := by omega
  have q3 : -9223372036854775808 ≤ z.hi + c.i.hi ∧ z.hi + c.i.hi < 9223372036854775808 := by omega
  have q4 : -9223372036854775808 ≤ z.hi + c.i.hi - c.o.lo ∧ z.hi + c.i.hi - c.o.lo < 9223372036854775808 := by omega
  have ez : ∀ Z : Sp, Z = addS z (valS (some c)) → z.lo + c.i.lo - c.o.hi = Z.lo ∧ z.hi + c.i.hi - c.o.lo = Z.hi := fun Z hZ => by
   rw [hZ]; simp only [addS, valS]; omega
  simp (maxSteps := 1000000) only [xE_ty, xE_fn, xE_bin, xE_oi, xE_oc, xE_ok, VL,VM,↓VG,reduceIte,reduceCtorEq,zA,zB,zC,zD,zE,zF,zG,zH,zI,zJ, k2]
  ((repeat refine Ws ?_);refine Wt (by first|rfl|simp only [EV,zF,reduceIte]) ?_)
  ((repeat refine Ws ?_);refine W_skip ?_)
  simp (maxSteps := 1000000) only [xE_ty, xE_fn, xE_bin, xE_oi, xE_oc, xE_ok, VL,VM,↓VG,reduceIte,reduceCtorEq,zA,zB,zC,zD,zE,zF,zG,zH,zI,zJ]
  ((repeat refine Ws ?_);refine W_block ?_)
  ((repeat refine Ws ?_);refine W_region0 TE_ok ?_)
  simp (maxSteps := 1000000) only [xE_ty, xE_fn, xE_bin, xE_oi, xE_oc, xE_ok, VL,VM,↓VG,reduceIte,reduceCtorEq,zA,zB,zC,zD,zE,zF,zG,zH,zI,zJ, hx']
  ((repeat refine Ws ?_);refine W_region0 TE_ok ?_)
  by_cases t1 : c.tick = t
  ·have kt : (c.tick = t) = True := eq_true t1
   rw [if_pos t1] at hst
   obtain ⟨ez1, ez2⟩ := ez _ hst
   simp (maxSteps := 1000000) only [xE_ty, xE_fn, xE_bin, xE_oi, xE_oc, xE_ok, VL,VM,↓VG,reduceIte,reduceCtorEq,zA,zB,zC,zD,zE,zF,zG,zH,zI,zJ, kt]
   ((repeat refine Ws ?_);refine Wt (by first|rfl|simp only [EV,zF,reduceIte]) ?_)
   (repeat refine Ws ?_)
   refine W_drawP TE_ok [] (by kernel_rfl) (by kernel_rfl) ?_
   generalize hi : mkPlan _ = infs
   cbv at hi
   subst hi
   simp (maxSteps := 1000000) only [xE_ty, xE_fn, xE_bin, xE_oi, xE_oc, xE_ok, VL,VM,↓VG,reduceIte,reduceCtorEq,zA,zB,zC,zD,zE,zF,zG,zH,zI,zJ, q1, q2, q3, q4]
   ((repeat refine Ws ?_);refine W_region0 TE_ok ?_)
   simp (maxSteps := 1000000) only [xE_ty, xE_fn, xE_bin, xE_oi, xE_oc, xE_ok, VL,VM,↓VG,reduceIte,reduceCtorEq,zA,zB,zC,zD,zE,zF,zG,zH,zI,zJ, k1]
   refine LoopK.mk ⟨i + 1, junk ++ [.obj [vi c.tick, vi c.door, vi c.i.lo, vi c.i.hi, vi c.o.lo, vi c.o.hi]]⟩ (by simp only; omega) hlt ⟨rfl, rfl, rfl, rfl, rfl, rfl, trivial⟩ ?_
   simp only
   rw [← ez1, ← ez2]
  have kt : (c.tick = t) = False := eq_false t1
  rw [if_neg t1] at hst
  simp (maxSteps := 1000000) only [xE_ty, xE_fn, xE_bin, xE_oi, xE_oc, xE_ok, VL,VM,↓VG,reduceIte,reduceCtorEq,zA,zB,zC,zD,zE,zF,zG,zH,zI,zJ, kt]
  ((repeat refine Ws ?_);refine Wf (by first|rfl|simp only [EV,zF,reduceIte]) ?_)
  ((repeat refine Ws ?_);refine W_skip ?_)
  simp (maxSteps := 1000000) only [xE_ty, xE_fn, xE_bin, xE_oi, xE_oc, xE_ok, VL,VM,↓VG,reduceIte,reduceCtorEq,zA,zB,zC,zD,zE,zF,zG,zH,zI,zJ]
  ((repeat refine Ws ?_);refine W_region0 TE_ok ?_)
  simp (maxSteps := 1000000) only [xE_ty, xE_fn, xE_bin, xE_oi, xE_oc, xE_ok, VL,VM,↓VG,reduceIte,reduceCtorEq,zA,zB,zC,zD,zE,zF,zG,zH,zI,zJ, k1]
  refine LoopK.mk ⟨i + 1, junk ++ [.obj [vi c.tick, vi c.door, vi c.i.lo, vi c.i.hi, vi c.o.lo, vi c.o.hi]]⟩ (by simp only; omega) hlt ⟨rfl, rfl, rfl, rfl, rfl, rfl, trivial⟩ ?_
  simp only
  rw [hst]
 have k2 : ((i : Int) < (h.counts.length : Int)) = False := eq_false (by omega)
 have hi3 : i = h.counts.length := by omega
 subst hi3
 simp (maxSteps := 1000000) only [xE_ty, xE_fn, xE_bin, xE_oi, xE_oc, xE_ok, VL,VM,↓VG,reduceIte,reduceCtorEq,zA,zB,zC,zD,zE,zF,zG,zH,zI,zJ, k2]
 ((repeat refine Ws ?_);refine Wf (by first|rfl|simp only [EV,zF,reduceIte]) ?_)
 ((repeat refine Ws ?_);refine W_exit ?_)
 simp (maxSteps := 1000000) only [xE_ty, xE_fn, xE_bin, xE_oi, xE_oc, xE_ok, VL,VM,↓VG,reduceIte,reduceCtorEq,zA,zB,zC,zD,zE,zF,zG,zH,zI,zJ]
 rw [List.take_length]
 ((repeat refine Ws ?_);refine W_region0 TE_ok ?_)
 simp (maxSteps := 1000000) only [xE_ty, xE_fn, xE_bin, xE_oi, xE_oc, xE_ok, VL,VM,↓VG,reduceIte,reduceCtorEq,zA,zB,zC,zD,zE,zF,zG,zH,zI,zJ]
 (repeat refine Ws ?_)
 refine W_ret ?_
 try simp only [thenQ, blockQ]
 refine own_ret (vs := [spV (chg h.counts t)]) ?_ rfl rfl ⟨rfl, rfl⟩
 simp [Try.f88, vresL, vload, xE_ty, t_span, get_cons, hget, strip1]
 try rfl
end Go.Proofs.Ytmagiabapakhcaa.Vm

/- The reference: Inside, on values. (Vm) -/
namespace Go.Proofs.Ytmagiabapakhcaa.Vm
open Go Go.Proofs
end Go.Proofs.Ytmagiabapakhcaa.Vm

/- Houses and kitchens that are copied, and compared with what they were copied from, on values. (Vm) -/
namespace Go.Proofs.Ytmagiabapakhcaa.Vm
open Go Go.Proofs
end Go.Proofs.Ytmagiabapakhcaa.Vm

/- A cell of an object that is known in another way; slices that others lead to, and that grow. (Vm) -/
namespace Go.Proofs.Ytmagiabapakhcaa.Vm
open Go Go.Proofs
section
variable {P : Program} {T : Tab} {cx : Cx} {e : Env} {M : Mem} {D : List Nat} {Q : PQ} {c : Code}
theorem W_cell {id off : Nat} {cs : List VV} {x y : VV} (ho : M.H[id]? = some (.obj cs)) (hc : cs[off]? = some x) (hr : ∀ r ∈ refs y, r ∈ refs x) (hk : ∀ w K v, RepV w K M.H v x → RepV w K M.H v y)
  (h : WCode P cx c e ⟨M.H.set id (.obj (cs.set off y)), M.lg⟩ D Q) : WCode P cx c e M D Q := by
 intro G w K a hs
 have i1 := hs.inv
 have hil := (List.getElem?_eq_some_iff.1 ho).1
 obtain ⟨H2, hH2⟩ : ∃ H2, H2 = M.H.set id (.obj (cs.set off y)) := ⟨_, rfl⟩
 rw [← hH2] at h
 have hl2 : H2.length = M.H.length := by rw [hH2]; simp
 have hs2 : ∀ i x, H2[i]? = some x → (i = id ∧ x = .obj (cs.set off y)) ∨ (i ≠ id ∧ M.H[i]? = some x) := fun i x hx => by
  rw [hH2] at hx
  rcases set_get hx with ⟨rfl, rfl, _⟩ | ⟨b1, b2⟩
  ·exact .inl ⟨rfl, rfl⟩
  ·exact .inr ⟨b1, b2⟩
 have hE : Ext w K M.H w K H2 := by
  refine ⟨Nat.le_refl _, Szp.refl _, fun b q _ him i ob hi hb => ?_, fun _ _ _ _ => rfl, fun i x hi => ?_⟩
  ·rcases hs2 i ob hi with ⟨rfl, rfl⟩ | ⟨_, h2⟩
   ·rcases him i _ ho hb with e2 | ⟨m, k', e2, _⟩
    ·exact e2.elim
    ·cases e2
   ·exact him i ob h2 hb
  ·by_cases hid : i = id
   ·subst hid
    rw [ho] at hi
    cases hi
    exact ⟨_, by rw [hH2, List.getElem?_set_self hil], fun _ _ e => VObj.noConfusion e, rfl⟩
   ·exact ⟨x, by rw [hH2, List.getElem?_set_ne (Ne.symm hid)]; exact hi, objLe_same rfl fun b _ => rfl⟩
 have hI2 : Inv G w K { H := H2, lg := M.lg } := by
  refine ⟨i1.os, i1.tape, i1.output, i1.size, i1.gB, i1.old, inj_set i1 hl2 (fun i hg => by
   by_cases e1 : i = id
   ·rw [e1, ho]; simp
   ·rw [hH2, List.getElem?_set_ne (fun h => e1 h.symm)] at hg
    exact hg), fun i b hi => i1.blk i b (by simpa [hl2] using hi), fun i x hi => ?_, fun i x hi cc hcc r hr2 => ?_, fun en hen => ?_, fun i L hi => ?_⟩
  ·rcases hs2 i x hi with ⟨rfl, rfl⟩ | ⟨_, h2⟩
   ·intro b hb
    obtain ⟨vs, t, q1, q2, q3⟩ := i1.obj i _ ho b hb
    refine ⟨vs, t, q1, by simpa using q2, fun l v cv hv hcv => ?_⟩
    rw [List.getElem?_set] at hcv
    by_cases hj : off = l
    ·subst hj
     have hlt := (List.getElem?_eq_some_iff.1 hc).1
     rw [if_pos rfl, if_pos hlt] at hcv
     cases hcv
     obtain ⟨r1, r2⟩ := q3 off v _ hv hc
     refine ⟨(hk w K v r1).ext hE fun r hr3 => ?_, r2⟩
     exact i1.content ho x (by simp only [contents]; exact List.mem_of_getElem? hc) r (hr r hr3)
    ·rw [if_neg hj] at hcv
     obtain ⟨r1, r2⟩ := q3 l v cv hv hcv
     exact ⟨r1.ext hE (i1.content ho cv (by simp only [contents]; exact List.mem_of_getElem? hcv)), r2⟩
   ·exact (i1.obj i x h2).ext hE (fun _ _ => rfl) (i1.content h2)
  ·simp only [hl2]
   rcases hs2 i x hi with ⟨rfl, rfl⟩ | ⟨_, h2⟩
   ·simp only [contents] at hcc
    rcases List.mem_or_eq_of_mem_set hcc with hm | rfl
    ·exact i1.cl i _ ho cc (by simp only [contents]; exact hm) r hr2
    ·exact i1.cl i _ ho _ (by simp only [contents]; exact List.mem_of_getElem? hc) r (hr r hr2)
   ·exact i1.cl i x h2 cc hcc r hr2
  ·simp only [hl2]
   exact i1.lg en hen
  ·rcases hs2 i _ hi with ⟨rfl, e2⟩ | ⟨_, h2⟩
   ·cases e2
   ·exact i1.lpd i L h2
 have hs3 : StOk cx G w K { H := H2, lg := M.lg } a e D := ⟨hs.fr.ext (M' := { H := H2, lg := M.lg }) hE, df_ext (M' := { H := H2, lg := M.lg }) hE hs.df, hI2, (rd_ext (M' := { H := H2, lg := M.lg }) hE hs.rd).1⟩
 have h2 := h G w _ a hs3
 exact wpIn_mono h2 fun ex a' w' ⟨e', M', K', D', q1, q2, q3, q4⟩ => ⟨e', M', K', D', q1, q2, q3, hE.trans q4⟩
theorem so_sw {w : World} {K : Nat → Option Nat} {H : List VObj} {v : Value} {g k : Nat} {xs : List (List PV)} (h : RepV w K H v (.so g k xs)) : RepV w K H v (.sw g k (xs.map (List.map .p))) := by
 cases h with
 | so _ _ _ _ h ht =>
  cases h with
  | sl A c _ b off _ f hc hm hk hA hi hw hr =>
   have hg : ∀ {i : Nat} {x : List VV} {j : Nat} {u : VV}, (xs.map (List.map VV.p))[i]? = some x → x[j]? = some u → ∃ x0 u0, xs[i]? = some x0 ∧ x0[j]? = some u0 ∧ u = .p u0 := fun h1 h2 => by
    rw [List.getElem?_map] at h1
    obtain ⟨x0, h3, rfl⟩ := Option.map_eq_some_iff.1 h1
    rw [List.getElem?_map] at h2
    obtain ⟨u0, h4, rfl⟩ := Option.map_eq_some_iff.1 h2
    exact ⟨x0, u0, h3, h4, rfl⟩
   have hsv : RepV w K H (.slice A (xs.map (List.map VV.p)).length c) (.sv k (xs.map (List.map VV.p))) := by
    refine .sv A c k b off _ f (by simpa using hc) hm (fun x hx => ?_) (fun hx => hA (by simpa using hx)) (fun i x j u h1 h2 => ?_) (fun i x j u h1 h2 => ?_) (fun i x j u h1 h2 => ?_) (fun i x j u h1 h2 => ?_)
    ·obtain ⟨x0, h1, rfl⟩ := List.mem_map.1 hx
     rw [List.length_map]; exact hk x0 h1
    ·obtain ⟨x0, u0, h3, h4, rfl⟩ := hg h1 h2
     exact hi i x0 j u0 h3 h4
    ·obtain ⟨x0, u0, h3, h4, rfl⟩ := hg h1 h2
     exact hw i x0 j u0 h3 h4
    ·obtain ⟨x0, u0, h3, h4, rfl⟩ := hg h1 h2
     exact .p _ _ (hr i x0 j u0 h3 h4)
    ·obtain ⟨x0, u0, h3, h4, rfl⟩ := hg h1 h2
     exact repP_isOne (hr i x0 j u0 h3 h4)
   rw [List.length_map] at hsv
   exact .sw _ _ _ _ hsv (by rw [List.length_map]; exact ht)
end
theorem refsLL_pure : ∀ xs : List (List PV), refsLL (xs.map (List.map VV.p)) = []
 | [] => rfl
 | x :: xs => by
  have : ∀ l : List PV, refsL (l.map VV.p) = [] := by
   intro l
   induction l with
   | nil => rfl
   | cons a l ih => rw [List.map_cons, refsL, ih]; rfl
  rw [List.map_cons, refsLL, this, refsLL_pure xs]; rfl
end Go.Proofs.Ytmagiabapakhcaa.Vm

/- The law of who may be inside, on values. (Vm) -/
namespace Go.Proofs.Ytmagiabapakhcaa.Vm
open Go Go.Proofs
theorem sameInside_v (h : Ho) : ∃ v e, insideR h = .tup [v, vi e] ∧ strip1 v = v ∧ refs v = [] ∧ isCell v = true ∧ cellsOf v = [v] ∧ ∀ M, VC Try.prog 26 [v, v] M (fun r M' => M' = M ∧ r = vb true) := by
 have nil : ∀ M, VC Try.prog 26 [.p (.sl 0 []), .p (.sl 0 [])] M (fun r M' => M' = M ∧ r = vb true) := fun M => by
  refine VC_nil0 (us := []) (k := 2) ?_
  refine VC_nil0 (us := [.p (.sl 2 [])]) (k := 2) ?_
  exact sameSpans_v [] [] M (by simp)
 unfold insideR
 split
 ·rename_i h0
  cases hi : insideH h with
  | none => exact ⟨_, _, rfl, rfl, rfl, rfl, rfl, nil⟩
  | some l =>
   refine ⟨_, _, rfl, rfl, rfl, rfl, rfl, fun M => ?_⟩
   have hl := insideH_len hi
   have ht := (houseErr_ok.1 h0).t1
   have := sameSpans_v l l M (by omega)
   simpa using this
 ·exact ⟨_, _, rfl, rfl, rfl, rfl, rfl, nil⟩
end Go.Proofs.Ytmagiabapakhcaa.Vm
