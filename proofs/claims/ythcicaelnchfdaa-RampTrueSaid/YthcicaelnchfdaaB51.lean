/- A part of the proofs about the chapter of the ramps; it states no condition of its own. -/
import Derived.Test.YthcicaelnchfdaaB23
import Derived.Test.YthcicaelnchfdaaB44
set_option linter.unusedVariables false
set_option linter.unusedSimpArgs false
open Int renaming reduceLE → zA, reduceLT → zB, reduceToNat → zC, reduceNeg → zD
open Nat renaming reduceLT → zE, reduceEqDiff → zF, reduceAdd → zG, reduceSub → zH, reduceMul → zI, reduceLeDiff → zJ
/- The reference's compare functions on plans in buffers. (Vm) -/
namespace Go.Proofs.Ythcicaelnchfdaa.Vm
open Go Go.Proofs
theorem stC_at {l : List St} {i : Nat} (h : i < l.length) : (stC l)[i * 2]? = some (vi (stAt l i).ramp) ∧ (stC l)[i * 2 + 1]? = some (vi (stAt l i).from_) := by
 have hk : ∀ x ∈ l.map (fun s => [vi s.ramp, vi s.from_]), x.length = 2 := fun x hx => by obtain ⟨z, _, rfl⟩ := List.mem_map.1 hx; rfl
 have hg : (l.map (fun s => [vi s.ramp, vi s.from_]))[i]? = some [vi (stAt l i).ramp, vi (stAt l i).from_] := by rw [List.getElem?_map, stAt_get h]; rfl
 unfold stC
 have h0 := flat_get (i := i) (j := 0) hk hg (by omega)
 have h1 := flat_get (i := i) (j := 1) hk hg (by omega)
 exact ⟨by simpa using h0, by simpa using h1⟩
theorem last_b {y : Ya} (hy : YaV y) {p : List St} (hx : PB y p) (M : Mem) (id : Nat) (hid : M.H[id]? = some (.obj (stC p))) : VC Try.prog 40 [yardV y, .bf id 0 p.length 2] M (fun r M' => M' = M ∧ r = vi (lastV y p)) := by
 have h1 := hx.1
 have h2 := hy.m1
 have hl : p.length ≤ 1000000 := by omega
 have hc : p.length ≤ y.carts.length := by omega
 have hb : ∀ i, i < p.length → -1000000 ≤ (stAt p i).from_ + (ctAt y i).takes.hi ∧ (stAt p i).from_ + (ctAt y i).takes.hi ≤ 1000000 := fun i hi => by
  have c := hy.ct _ (ctAt_mem (y := y) (i := i) (by omega))
  have := hx.2 i hi
  have := c.l0
  have := c.lh
  have := c.h1
  omega
 have g1 : ∀ X, (M.H ++ X)[id]? = some (.obj (stC p)) := fun X => by
  rw [List.getElem?_append_left (List.getElem?_eq_some_iff.1 hid).1, hid]
 refine VC_own' T_ok (f := 40) (fn := Try.f40) (by kernel_rfl) rfl Try.ntmps40 (by rfl) (by rfl) ?_
 ((repeat refine Ws ?_);refine W_regionE T_ok ?_; intro Kn hKn)
 ((simp (maxSteps := 1000000) only [VL,VM,↓VG,reduceIte,reduceCtorEq,zA,zB,zC,zD,zE,zF,zG,zH,zI,zJ]); rw [hKn];clear hKn Kn;simp only [QV,reduceIte,reduceCtorEq,Nat.reduceEqDiff])
 ((repeat refine Ws ?_);refine W_regionE T_ok ?_; intro Kn hKn)
 ((simp (maxSteps := 1000000) only [VL,VM,↓VG,reduceIte,reduceCtorEq,zA,zB,zC,zD,zE,zF,zG,zH,zI,zJ]); rw [hKn];clear hKn Kn;simp only [QV,reduceIte,reduceCtorEq,Nat.reduceEqDiff])
 ((repeat refine Ws ?_);refine W_regionE T_ok ?_; intro Kn hKn)
 ((simp (maxSteps := 1000000) only [VL,VM,↓VG,reduceIte,reduceCtorEq,zA,zB,zC,zD,zE,zF,zG,zH,zI,zJ]); rw [hKn];clear hKn Kn;simp only [QV,reduceIte,reduceCtorEq,Nat.reduceEqDiff])
 ((repeat refine Ws ?_);refine W_block ?_; (repeat refine Ws ?_)); refine W_loopS (fun i : Nat => [(1, .bf id 0 p.length 2), (2, .ptr M.H.length 0), (5, vi (((awayL y p).take i).foldl (fun m s => max m s.hi) 0)), (6, vi i)]) (fun i => ⟨M.H ++ [.obj (yardC y)], M.lg⟩) (fun i => p.length - i) (fun i => i ≤ p.length) 0 (Nat.zero_le _) ⟨rfl, rfl, rfl, rfl, trivial⟩ rfl ?_
 intro i hi
 have k1 : -9223372036854775808 ≤ (i : Int) + 1 ∧ (i : Int) + 1 < 9223372036854775808 := by omega
 ((repeat refine Ws ?_);refine W_regionE T_ok ?_; intro Kn hKn)
 rcases Nat.lt_or_ge i p.length with hlt | hge
 ·have k2 : ((i : Int) < (p.length : Int)) = True := eq_true (by omega)
  have hlt2 : i < y.carts.length := by omega
  obtain ⟨x0, x1⟩ := stC_at hlt
  have hy' := map_at (f := ctP) (ctAt_get hlt2)
  have hbi := hb i hlt
  have q2 : -9223372036854775808 ≤ (stAt p i).from_ + (ctAt y i).takes.hi ∧ (stAt p i).from_ + (ctAt y i).takes.hi < 9223372036854775808 := by omega
  have key := awayL_take hlt hlt2
  have t3 : (i < p.length) = True := eq_true hlt
  ((simp (maxSteps := 1000000) only [VL,VM,↓VG,reduceIte,reduceCtorEq,zA,zB,zC,zD,zE,zF,zG,zH,zI,zJ, k2]); rw [hKn];clear hKn Kn;simp only [QV,reduceIte,reduceCtorEq,Nat.reduceEqDiff])
  ((repeat refine Ws ?_);refine Wt (by first|rfl|simp only [EV,zF,reduceIte]) ?_)
  (((repeat refine Ws ?_);refine W_skip ?_); simp only [QV,reduceIte,reduceCtorEq,Nat.reduceEqDiff])
  ((repeat refine Ws ?_);refine W_block ?_)
  (repeat refine Ws ?_)
  refine W_drawE T_ok [] (by kernel_rfl) (by kernel_rfl) ?_
  intro Kn hKn
  generalize hi : mkPlan _ = infs
  cbv at hi
  subst hi
  ((simp (maxSteps := 1000000) only [VL,VM,↓VG,reduceIte,reduceCtorEq,zA,zB,zC,zD,zE,zF,zG,zH,zI,zJ, g1, x0, x1, hy', q2, t3]); rw [hKn];clear hKn Kn;simp only [QV,reduceIte,reduceCtorEq,Nat.reduceEqDiff])
  ((repeat refine Ws ?_);refine W_regionE T_ok ?_; intro Kn hKn)
  ((simp (maxSteps := 1000000) only [VL,VM,↓VG,reduceIte,reduceCtorEq,zA,zB,zC,zD,zE,zF,zG,zH,zI,zJ, k1]); rw [hKn];clear hKn Kn;simp only [QV,reduceIte,reduceCtorEq,Nat.reduceEqDiff])
  refine LoopK.mk (i + 1) (by omega) (by omega) ⟨rfl, rfl, ?_, rfl, trivial⟩ rfl
  rw [key, List.foldl_append]; rfl
 ·have k2 : ((i : Int) < (p.length : Int)) = False := eq_false (by omega)
  obtain rfl : i = p.length := by omega
  ((simp (maxSteps := 1000000) only [VL,VM,↓VG,reduceIte,reduceCtorEq,zA,zB,zC,zD,zE,zF,zG,zH,zI,zJ, k2]); rw [hKn];clear hKn Kn;simp only [QV,reduceIte,reduceCtorEq,Nat.reduceEqDiff])
  ((repeat refine Ws ?_);refine Wf (by first|rfl|simp only [EV,zF,reduceIte]) ?_)
  (((repeat refine Ws ?_);refine W_exit ?_); simp only [QV,reduceIte,reduceCtorEq,Nat.reduceEqDiff])
  ((repeat refine Ws ?_);refine W_regionE T_ok ?_; intro Kn hKn)
  ((simp (maxSteps := 1000000) only [VL,VM,↓VG,reduceIte,reduceCtorEq,zA,zB,zC,zD,zE,zF,zG,zH,zI,zJ]); rw [hKn];clear hKn Kn;simp only [QV,reduceIte,reduceCtorEq,Nat.reduceEqDiff])
  (repeat refine Ws ?_)
  refine W_ret ?_
  try simp only [thenQ, blockQ]
  refine own_ret1 rfl ?_ (by rfl)
  simp only [get_cons, frz, vtup, Nat.reduceEqDiff, if_true, if_false, reduceIte]
  rw [List.take_of_length_le (by rw [awayL_len]; omega)]
  rfl
theorem stC_sub {l : List St} {i : Nat} (h : i < l.length) : ((stC l).drop (i * 2)).take 2 = [vi (stAt l i).ramp, vi (stAt l i).from_] := by
 obtain ⟨h0, h1⟩ := stC_at h
 refine List.ext_getElem? fun j => ?_
 rw [List.getElem?_take, List.getElem?_drop]
 rcases j with _ | _ | j
 ·simpa using h0
 ·simpa using h1
 ·simp
  omega
theorem before_b (a b : List St) (M : Mem) (ia ib : Nat) (ha : M.H[ia]? = some (.obj (stC a))) (hbq : M.H[ib]? = some (.obj (stC b))) (hl : a.length ≤ 1000000) (hb : a.length ≤ b.length) : VC Try.prog 76 [.bf ia 0 a.length 2, .bf ib 0 b.length 2] M (fun r M' => M' = M ∧ r = vb (beforeB a b)) := by
 refine VC_own' T_ok (f := 76) (fn := Try.f76) (by kernel_rfl) rfl Try.ntmps76 (by rfl) (by rfl) ?_
 ((repeat refine Ws ?_);refine W_regionE T_ok ?_; intro Kn hKn)
 ((simp (maxSteps := 1000000) only [VL,VM,↓VG,reduceIte,reduceCtorEq,zA,zB,zC,zD,zE,zF,zG,zH,zI,zJ]); rw [hKn];clear hKn Kn;simp only [QV,reduceIte,reduceCtorEq,Nat.reduceEqDiff])
 ((repeat refine Ws ?_);refine W_regionE T_ok ?_; intro Kn hKn)
 ((simp (maxSteps := 1000000) only [VL,VM,↓VG,reduceIte,reduceCtorEq,zA,zB,zC,zD,zE,zF,zG,zH,zI,zJ]); rw [hKn];clear hKn Kn;simp only [QV,reduceIte,reduceCtorEq,Nat.reduceEqDiff])
 ((repeat refine Ws ?_);refine W_block ?_; (repeat refine Ws ?_)); refine W_loopS (fun i : Nat => [(0, .bf ia 0 a.length 2), (1, .bf ib 0 b.length 2), (5, vi i)]) (fun i => M) (fun i => a.length - i) (fun i => i ≤ a.length ∧ beforeB a b = beforeB (a.drop i) (b.drop i)) 0 ⟨Nat.zero_le _, rfl⟩ ⟨rfl, rfl, rfl, trivial⟩ rfl ?_
 rintro i ⟨hi, he⟩
 have k1 : -9223372036854775808 ≤ (i : Int) + 1 ∧ (i : Int) + 1 < 9223372036854775808 := by omega
 ((repeat refine Ws ?_);refine W_regionE T_ok ?_; intro Kn hKn)
 rcases Nat.lt_or_ge i a.length with hlt | hge
 ·have k2 : ((i : Int) < (a.length : Int)) = True := eq_true (by omega)
  have hlt2 : i < b.length := by omega
  have t3 : (i < a.length) = True := eq_true hlt
  have t4 : (i < b.length) = True := eq_true hlt2
  obtain ⟨x0, x1⟩ := stC_at hlt
  obtain ⟨y0, y1⟩ := stC_at hlt2
  have x2 := stC_sub hlt
  have y2 := stC_sub hlt2
  have la : (stC a).length = a.length * 2 := stC_len ..
  have lb : (stC b).length = b.length * 2 := stC_len ..
  have c1 : (i * 2 + 2 ≤ a.length * 2) = True := eq_true (by omega)
  have c2 : (i * 2 + 2 ≤ b.length * 2) = True := eq_true (by omega)
  rw [beforeB_at hlt hlt2] at he
  generalize stAt a i = s at he x0 x1 x2
  generalize stAt b i = u at he y0 y1 y2
  ((simp (maxSteps := 1000000) only [VL,VM,↓VG,reduceIte,reduceCtorEq,zA,zB,zC,zD,zE,zF,zG,zH,zI,zJ, k2]); rw [hKn];clear hKn Kn;simp only [QV,reduceIte,reduceCtorEq,Nat.reduceEqDiff])
  ((repeat refine Ws ?_);refine Wt (by first|rfl|simp only [EV,zF,reduceIte]) ?_)
  (((repeat refine Ws ?_);refine W_skip ?_); simp only [QV,reduceIte,reduceCtorEq,Nat.reduceEqDiff])
  ((repeat refine Ws ?_);refine W_block ?_)
  have hne := v_neSlot s u
  (repeat refine Ws ?_)
  refine W_drawE T_ok [] (by kernel_rfl) (by kernel_rfl) ?_
  intro Kn hKn
  generalize hi : mkPlan _ = infs
  cbv at hi
  subst hi
  by_cases h1 : s = u
  ·rw [if_pos h1] at he
   rw [decide_eq_true h1] at hne
   ((simp (maxSteps := 1000000) only [VL,VM,↓VG,reduceIte,reduceCtorEq,zA,zB,zC,zD,zE,zF,zG,zH,zI,zJ, ha, hbq, t3, t4, x0, x1, x2, y0, y1, y2, la, lb, c1, c2, hne]); rw [hKn];clear hKn Kn;simp only [QV,reduceIte,reduceCtorEq,Nat.reduceEqDiff])
   ((repeat refine Ws ?_);refine Wf (by first|rfl|simp only [EV,zF,reduceIte]) ?_)
   (((repeat refine Ws ?_);refine W_skip ?_); simp only [QV,reduceIte,reduceCtorEq,Nat.reduceEqDiff])
   ((repeat refine Ws ?_);refine W_regionE T_ok ?_; intro Kn hKn)
   ((simp (maxSteps := 1000000) only [VL,VM,↓VG,reduceIte,reduceCtorEq,zA,zB,zC,zD,zE,zF,zG,zH,zI,zJ, k1]); rw [hKn];clear hKn Kn;simp only [QV,reduceIte,reduceCtorEq,Nat.reduceEqDiff])
   exact LoopK.mk (i + 1) (by omega) ⟨by omega, he⟩ ⟨rfl, rfl, rfl, trivial⟩ rfl
  ·rw [if_neg h1] at he
   rw [decide_eq_false h1] at hne
   ((simp (maxSteps := 1000000) only [VL,VM,↓VG,reduceIte,reduceCtorEq,zA,zB,zC,zD,zE,zF,zG,zH,zI,zJ, ha, hbq, t3, t4, x0, x1, x2, y0, y1, y2, la, lb, c1, c2, hne]); rw [hKn];clear hKn Kn;simp only [QV,reduceIte,reduceCtorEq,Nat.reduceEqDiff])
   ((repeat refine Ws ?_);refine Wt (by first|rfl|simp only [EV,zF,reduceIte]) ?_)
   rw [he]
   unfold sltB
   (repeat refine Ws ?_)
   refine W_drawE T_ok [] (by kernel_rfl) (by kernel_rfl) ?_
   intro Kn hKn
   generalize hi : mkPlan _ = infs
   cbv at hi
   subst hi
   by_cases h2 : s.ramp < u.ramp
   ·((simp (maxSteps := 1000000) only [VL,VM,↓VG,reduceIte,reduceCtorEq,zA,zB,zC,zD,zE,zF,zG,zH,zI,zJ, ha, hbq, t3, t4, x0, x1, y0, y1, h2]); rw [hKn];clear hKn Kn;simp only [QV,reduceIte,reduceCtorEq,Nat.reduceEqDiff])
    (repeat refine Ws ?_)
    refine W_ret ?_
    try simp only [thenQ, blockQ]
    refine own_ret10 rfl ?_ (by rfl)
    simp only [get_cons, frz, vtup, Nat.reduceEqDiff, if_true, if_false, reduceIte]
    simp [h2]
   ·by_cases h3 : s.ramp = u.ramp
    ·by_cases h4 : s.from_ < u.from_
     ·((simp (maxSteps := 1000000) only [VL,VM,↓VG,reduceIte,reduceCtorEq,zA,zB,zC,zD,zE,zF,zG,zH,zI,zJ, ha, hbq, t3, t4, x0, x1, y0, y1, h3, h4, Int.lt_irrefl]); rw [hKn];clear hKn Kn;simp only [QV,reduceIte,reduceCtorEq,Nat.reduceEqDiff])
      (repeat refine Ws ?_)
      refine W_ret ?_
      try simp only [thenQ, blockQ]
      refine own_ret10 rfl ?_ (by rfl)
      simp only [get_cons, frz, vtup, Nat.reduceEqDiff, if_true, if_false, reduceIte]
      simp [h3, h4]
     ·((simp (maxSteps := 1000000) only [VL,VM,↓VG,reduceIte,reduceCtorEq,zA,zB,zC,zD,zE,zF,zG,zH,zI,zJ, ha, hbq, t3, t4, x0, x1, y0, y1, h3, h4, Int.lt_irrefl]); rw [hKn];clear hKn Kn;simp only [QV,reduceIte,reduceCtorEq,Nat.reduceEqDiff])
      (repeat refine Ws ?_)
      refine W_ret ?_
      try simp only [thenQ, blockQ]
      refine own_ret10 rfl ?_ (by rfl)
      simp only [get_cons, frz, vtup, Nat.reduceEqDiff, if_true, if_false, reduceIte]
      simp [h3, h4]
    ·((simp (maxSteps := 1000000) only [VL,VM,↓VG,reduceIte,reduceCtorEq,zA,zB,zC,zD,zE,zF,zG,zH,zI,zJ, ha, hbq, t3, t4, x0, x1, y0, y1, h2, h3]); rw [hKn];clear hKn Kn;simp only [QV,reduceIte,reduceCtorEq,Nat.reduceEqDiff])
     (repeat refine Ws ?_)
     refine W_ret ?_
     try simp only [thenQ, blockQ]
     refine own_ret10 rfl ?_ (by rfl)
     simp only [get_cons, frz, vtup, Nat.reduceEqDiff, if_true, if_false, reduceIte]
     simp [h2, h3]
 ·have k2 : ((i : Int) < (a.length : Int)) = False := eq_false (by omega)
  obtain rfl : i = a.length := by omega
  have hf : beforeB a b = false := by
   rw [he, List.drop_length, beforeB]
   intro x xs z zs h; cases h
  ((simp (maxSteps := 1000000) only [VL,VM,↓VG,reduceIte,reduceCtorEq,zA,zB,zC,zD,zE,zF,zG,zH,zI,zJ, k2]); rw [hKn];clear hKn Kn;simp only [QV,reduceIte,reduceCtorEq,Nat.reduceEqDiff])
  ((repeat refine Ws ?_);refine Wf (by first|rfl|simp only [EV,zF,reduceIte]) ?_)
  (((repeat refine Ws ?_);refine W_exit ?_); simp only [QV,reduceIte,reduceCtorEq,Nat.reduceEqDiff])
  ((repeat refine Ws ?_);refine W_regionE T_ok ?_; intro Kn hKn)
  ((simp (maxSteps := 1000000) only [VL,VM,↓VG,reduceIte,reduceCtorEq,zA,zB,zC,zD,zE,zF,zG,zH,zI,zJ]); rw [hKn];clear hKn Kn;simp only [QV,reduceIte,reduceCtorEq,Nat.reduceEqDiff])
  (repeat refine Ws ?_)
  refine W_ret ?_
  try simp only [thenQ, blockQ]
  refine own_ret10 rfl ?_ (by rfl)
  simp only [get_cons, frz, vtup, Nat.reduceEqDiff, if_true, if_false, reduceIte]
  rw [hf]
end Go.Proofs.Ythcicaelnchfdaa.Vm

/- The reference's search, with its best plan in a buffer of our own. (Vm) -/
-- TABLE TV
namespace Go.Proofs.Ythcicaelnchfdaa.Vm
open Go Go.Proofs
def keepsV (f : Nat) : Bool := Nat.beq f 80 || Nat.beq f 42
noncomputable def TV : Tab := ownT2 T ownO keepsV
theorem TV_ok : TabOk Try.prog TV := ownT2_ok T_ok
theorem xV_ty : TV.ty = T.ty := ownT2_ty
theorem xV_fn : TV.fn = T.fn := ownT2_fn
theorem xV_bin : vbin TV = vbin T ∧ TV.ownS = T.ownS := ⟨ownT2_bin, rfl⟩
theorem xV_oi : TV.own 26 = true := by rw [TV, ownT2_own]; rfl
theorem xV_oc : TV.own 37 = true := by rw [TV, ownT2_own]; rfl
theorem xV_ok : TV.own 23 = false ∧ TV.own 22 = false := by rw [TV, ownT2_own]; exact ⟨rfl, rfl⟩
theorem TV_keeps : TV.keeps = keepsV := ownT2_keeps
def SvR (n m : Nat) (H : List VObj) (o : Option (List St)) (r : VV) : Prop := match o with
 | none => r = .tup [stsV [], vb false]
 | some b => ∃ id, r = .tup [.bf id 0 n 2, vb true] ∧ m ≤ id ∧ H[id]? = some (.obj (stC b))
theorem SvR.mono {n m m' : Nat} {H : List VObj} {o : Option (List St)} {r : VV} (h : SvR n m' H o r) (hm : m ≤ m') : SvR n m H o r := by
 cases o with
 | none => exact h
 | some b =>
  obtain ⟨id, h1, h2, h3⟩ := h
  exact ⟨id, h1, Nat.le_trans hm h2, h3⟩
theorem serve_full {y : Ya} (plan : List St) (free : List Int) (M : Mem) (p : Nat) (hp : M.H[p]? = some (.obj (stC plan))) (hl : plan.length ≤ 1000000) (hall : plan.all placed = true) : VC Try.prog 80 [yardV y, .bf p 0 plan.length 2, intsV free] M (fun r M' => M' = ⟨M.H ++ [.obj (yardC y)], M.lg⟩ ∧ r = .tup [.bf p 0 plan.length 2, vb true]) := by
 have g1 : ∀ X, (M.H ++ X)[p]? = some (.obj (stC plan)) := fun X => by
  rw [List.getElem?_append_left (List.getElem?_eq_some_iff.1 hp).1, hp]
 refine VC_keep TV_ok (f := 80) (fn := Try.f80) (by rw [xV_fn]; kernel_rfl) rfl Try.ntmps80 (by rfl) (by rw [TV_keeps]; rfl) ?_
 ((repeat refine Ws ?_);refine W_regionE TV_ok ?_; intro Kn hKn)
 ((simp (maxSteps := 1000000) only [xV_ty, xV_fn, xV_bin, xV_oi, xV_oc, xV_ok, VL,VM,↓VG,reduceIte,reduceCtorEq,zA,zB,zC,zD,zE,zF,zG,zH,zI,zJ]); rw [hKn];clear hKn Kn;simp only [QV,reduceIte,reduceCtorEq,Nat.reduceEqDiff])
 ((repeat refine Ws ?_);refine W_regionE TV_ok ?_; intro Kn hKn)
 ((simp (maxSteps := 1000000) only [xV_ty, xV_fn, xV_bin, xV_oi, xV_oc, xV_ok, VL,VM,↓VG,reduceIte,reduceCtorEq,zA,zB,zC,zD,zE,zF,zG,zH,zI,zJ]); rw [hKn];clear hKn Kn;simp only [QV,reduceIte,reduceCtorEq,Nat.reduceEqDiff])
 (repeat refine Ws ?_)
 refine W_nil (t := 8) (k := 2) rfl ?_
 ((repeat refine Ws ?_);refine W_regionE TV_ok ?_; intro Kn hKn)
 ((simp (maxSteps := 1000000) only [xV_ty, xV_fn, xV_bin, xV_oi, xV_oc, xV_ok, VL,VM,↓VG,reduceIte,reduceCtorEq,zA,zB,zC,zD,zE,zF,zG,zH,zI,zJ]); rw [hKn];clear hKn Kn;simp only [QV,reduceIte,reduceCtorEq,Nat.reduceEqDiff])
 ((repeat refine Ws ?_);refine W_regionE TV_ok ?_; intro Kn hKn)
 ((simp (maxSteps := 1000000) only [xV_ty, xV_fn, xV_bin, xV_oi, xV_oc, xV_ok, VL,VM,↓VG,reduceIte,reduceCtorEq,zA,zB,zC,zD,zE,zF,zG,zH,zI,zJ]); rw [hKn];clear hKn Kn;simp only [QV,reduceIte,reduceCtorEq,Nat.reduceEqDiff])
 ((repeat refine Ws ?_);refine W_block ?_; (repeat refine Ws ?_)); refine W_loopS (fun i : Nat => [(1, .bf p 0 plan.length 2), (2, intsV free), (3, .ptr M.H.length 0), (8, stsV []), (9, vb true), (10, vb false), (11, vi i)]) (fun _ => ⟨M.H ++ [.obj (yardC y)], M.lg⟩) (fun i => plan.length - i) (fun i => i ≤ plan.length) 0 (Nat.zero_le _) ⟨rfl, rfl, rfl, rfl, rfl, rfl, rfl, trivial⟩ rfl ?_
 intro i hi
 have k1 : -9223372036854775808 ≤ (i : Int) + 1 ∧ (i : Int) + 1 < 9223372036854775808 := by omega
 ((repeat refine Ws ?_);refine W_regionE TV_ok ?_; intro Kn hKn)
 rcases Nat.lt_or_ge i plan.length with hlt | hge
 ·have k2 : ((i : Int) < (plan.length : Int)) = True := eq_true (by omega)
  obtain ⟨x0, x1⟩ := stC_at hlt
  have h1 : 0 ≤ (stAt plan i).ramp := by
   have hm := List.all_eq_true.1 hall (stAt plan i) (List.mem_of_getElem? (stAt_get hlt))
   exact of_decide_eq_true hm
  have t3 : (i < plan.length) = True := eq_true hlt
  ((simp (maxSteps := 1000000) only [xV_ty, xV_fn, xV_bin, xV_oi, xV_oc, xV_ok, VL,VM,↓VG,reduceIte,reduceCtorEq,zA,zB,zC,zD,zE,zF,zG,zH,zI,zJ, k2]); rw [hKn];clear hKn Kn;simp only [QV,reduceIte,reduceCtorEq,Nat.reduceEqDiff])
  ((repeat refine Ws ?_);refine Wt (by first|rfl|simp only [EV,zF,reduceIte]) ?_)
  (((repeat refine Ws ?_);refine W_skip ?_); simp only [QV,reduceIte,reduceCtorEq,Nat.reduceEqDiff])
  ((repeat refine Ws ?_);refine W_block ?_)
  ((repeat refine Ws ?_);refine W_regionE TV_ok ?_; intro Kn hKn)
  ((simp (maxSteps := 1000000) only [xV_ty, xV_fn, xV_bin, xV_oi, xV_oc, xV_ok, VL,VM,↓VG,reduceIte,reduceCtorEq,zA,zB,zC,zD,zE,zF,zG,zH,zI,zJ, g1, x0, t3, h1]); rw [hKn];clear hKn Kn;simp only [QV,reduceIte,reduceCtorEq,Nat.reduceEqDiff])
  ((repeat refine Ws ?_);refine Wt (by first|rfl|simp only [EV,zF,reduceIte]) ?_)
  (((repeat refine Ws ?_);refine W_exit ?_); simp only [QV,reduceIte,reduceCtorEq,Nat.reduceEqDiff])
  ((repeat refine Ws ?_);refine W_regionE TV_ok ?_; intro Kn hKn)
  ((simp (maxSteps := 1000000) only [xV_ty, xV_fn, xV_bin, xV_oi, xV_oc, xV_ok, VL,VM,↓VG,reduceIte,reduceCtorEq,zA,zB,zC,zD,zE,zF,zG,zH,zI,zJ, k1]); rw [hKn];clear hKn Kn;simp only [QV,reduceIte,reduceCtorEq,Nat.reduceEqDiff])
  exact LoopK.mk (i + 1) (by omega) (by omega) ⟨rfl, rfl, rfl, rfl, rfl, rfl, rfl, trivial⟩ rfl
 ·have k2 : ((i : Int) < (plan.length : Int)) = False := eq_false (by omega)
  obtain rfl : i = plan.length := by omega
  ((simp (maxSteps := 1000000) only [xV_ty, xV_fn, xV_bin, xV_oi, xV_oc, xV_ok, VL,VM,↓VG,reduceIte,reduceCtorEq,zA,zB,zC,zD,zE,zF,zG,zH,zI,zJ, k2]); rw [hKn];clear hKn Kn;simp only [QV,reduceIte,reduceCtorEq,Nat.reduceEqDiff])
  ((repeat refine Ws ?_);refine Wf (by first|rfl|simp only [EV,zF,reduceIte]) ?_)
  (((repeat refine Ws ?_);refine W_exit ?_); simp only [QV,reduceIte,reduceCtorEq,Nat.reduceEqDiff])
  ((repeat refine Ws ?_);refine W_regionE TV_ok ?_; intro Kn hKn)
  ((simp (maxSteps := 1000000) only [xV_ty, xV_fn, xV_bin, xV_oi, xV_oc, xV_ok, VL,VM,↓VG,reduceIte,reduceCtorEq,zA,zB,zC,zD,zE,zF,zG,zH,zI,zJ]); rw [hKn];clear hKn Kn;simp only [QV,reduceIte,reduceCtorEq,Nat.reduceEqDiff])
  ((repeat refine Ws ?_);refine Wt (by first|rfl|simp only [EV,zF,reduceIte]) ?_)
  ((repeat refine Ws ?_);refine W_regionE TV_ok ?_; intro Kn hKn)
  ((simp (maxSteps := 1000000) only [xV_ty, xV_fn, xV_bin, xV_oi, xV_oc, xV_ok, VL,VM,↓VG,reduceIte,reduceCtorEq,zA,zB,zC,zD,zE,zF,zG,zH,zI,zJ]); rw [hKn];clear hKn Kn;simp only [QV,reduceIte,reduceCtorEq,Nat.reduceEqDiff])
  (repeat refine Ws ?_)
  refine W_ret ?_
  exact ⟨.inr rfl, rfl, [.bf p 0 plan.length 2, vb true], by simp [vresL, Try.f80, get_cons], rfl, rfl⟩
def E8 (n : Nat) (o : Option (List St × Nat)) : VV := match o with
 | none => stsV []
 | some (_, id) => .bf id 0 n 2
theorem app_of {H' H1 : List VObj} (hl : H1.length ≤ H'.length) (h : ∀ i, i < H1.length → H'[i]? = H1[i]?) : ∃ L, H' = H1 ++ L := by
 refine ⟨H'.drop H1.length, ?_⟩
 have : H'.take H1.length = H1 := by
  refine List.ext_getElem? fun i => ?_
  rw [List.getElem?_take]
  split
  ·rename_i hi; exact h i hi
  ·rename_i hi; rw [List.getElem?_eq_none (by omega)]
 conv => lhs; rw [← List.take_append_drop H1.length H', this]
theorem keepL {m : Nat} {H1 L2 : List VObj} {bk : Option (List St × Nat)} (Z : List VObj) (h : ∀ b id, bk = some (b, id) → m ≤ id ∧ (H1 ++ L2)[id]? = some (.obj (stC b))) : ∀ b id, bk = some (b, id) → m ≤ id ∧ (H1 ++ (L2 ++ Z))[id]? = some (.obj (stC b)) := fun b id hb => by
 obtain ⟨hm, this⟩ := h b id hb
 refine ⟨hm, ?_⟩
 rw [← List.append_assoc, List.getElem?_append_left (List.getElem?_eq_some_iff.1 this).1, this]
set_option maxRecDepth 4000 in
set_option maxHeartbeats 8000000 in
theorem serve_part {y : Ya} (hy : YaV y) : ∀ (n : Nat) (plan : List St) (free : List Int) (M : Mem), SvOk y plan free → un plan ≤ n → plan.all placed = false → VC Try.prog 80 [yardV y, stsV plan, intsV free] M (fun r M' => ∃ L, M' = ⟨M.H ++ L, M.lg⟩ ∧ SvR plan.length M.H.length (M.H ++ L) (servR y n plan free) r) := by
 intro n
 induction n using Nat.strongRecOn with
 | ind n ih =>
 intro plan free M hsv hun hnf
 have hl := hsv.len
 have hfl := hsv.fl
 have hm1 := hy.m1
 have hn1 := hy.n1
 have q16 : (plan.length * 16 ≤ 140737488355328) = True := eq_true (by omega)
 have q8 : (free.length * 8 ≤ 140737488355328) = True := eq_true (by omega)
 obtain ⟨S, hS⟩ : ∃ S, S = servR y (n - 1) := ⟨_, rfl⟩
 have hSx : ∀ (p : List St) (f : List Int), SvOk y p f → un p + 1 = un plan → ∀ (M : Mem) (q : Nat), M.H[q]? = some (.obj (stC p)) → ∀ m, m ≤ q → VC Try.prog 80 [yardV y, .bf q 0 plan.length 2, intsV f] M (fun r M' => ∃ H', M' = ⟨H', M.lg⟩ ∧ SvR plan.length m H' (S p f) r ∧ M.H.length ≤ H'.length ∧ ∀ i, i ≠ q → i < M.H.length → H'[i]? = M.H[i]?) := fun p f hp hu M q hq m hm => by
  have hpl := hp.len
  rw [hl, ← hpl]
  cases hf : p.all placed with
  | true =>
   refine (serve_full p f M q hq (by omega) hf).mono ?_
   rintro r _ ⟨rfl, rfl⟩
   have hq1 := (List.getElem?_eq_some_iff.1 hq).1
   refine ⟨_, rfl, ?_, by simp, fun i _ hi => List.getElem?_append_left hi⟩
   rw [hS, servR_all hf]
   exact ⟨q, rfl, hm, by rw [List.getElem?_append_left hq1, hq]⟩
  | false =>
   refine VC_frzA (us := [yardV y]) (vs := [intsV f]) (k := 2) (xs := p.map stP) (by rw [flat_sts]; exact hq) (fun x hx => by obtain ⟨z, _, rfl⟩ := List.mem_map.1 hx; rfl) (by simp) ?_
   refine (ih (n - 1) (by omega) p f _ hp (by omega) hf).mono ?_
   rintro r _ ⟨L, rfl, hr⟩
   have hq1 := (List.getElem?_eq_some_iff.1 hq).1
   refine ⟨_, rfl, by rw [hS]; exact hr.mono (by rw [List.length_set]; omega), by simp, fun i h1 hi => ?_⟩
   rw [List.getElem?_append_left (by simpa using hi), List.getElem?_set_ne (Ne.symm h1)]
 have hSp : ∀ p f, SvOk y p f → ∀ x, S p f = some x → PB y x := fun p f hp x hx => servR_pb hy (n - 1) p f hp x (by rw [← hS]; exact hx)
 have hres : servR y n plan free = (List.range plan.length).foldl (stepI y S plan free) none := by
  cases n with
  | zero =>
   have := all_un (plan := plan) (by omega)
   rw [hnf] at this
   cases this
  | succ n =>
   rw [servR, hnf, hS]; rfl
 refine VC_keep TV_ok (f := 80) (fn := Try.f80) (by rw [xV_fn]; kernel_rfl) rfl Try.ntmps80 (by rfl) (by rw [TV_keeps]; rfl) ?_
 ((repeat refine Ws ?_);refine W_regionE TV_ok ?_; intro Kn hKn)
 ((simp (maxSteps := 1000000) only [xV_ty, xV_fn, xV_bin, xV_oi, xV_oc, xV_ok, VL,VM,↓VG,reduceIte,reduceCtorEq,zA,zB,zC,zD,zE,zF,zG,zH,zI,zJ]); rw [hKn];clear hKn Kn;simp only [QV,reduceIte,reduceCtorEq,Nat.reduceEqDiff])
 ((repeat refine Ws ?_);refine W_regionE TV_ok ?_; intro Kn hKn)
 ((simp (maxSteps := 1000000) only [xV_ty, xV_fn, xV_bin, xV_oi, xV_oc, xV_ok, VL,VM,↓VG,reduceIte,reduceCtorEq,zA,zB,zC,zD,zE,zF,zG,zH,zI,zJ]); rw [hKn];clear hKn Kn;simp only [QV,reduceIte,reduceCtorEq,Nat.reduceEqDiff])
 (repeat refine Ws ?_)
 refine W_nil (t := 8) (k := 2) rfl ?_
 ((repeat refine Ws ?_);refine W_regionE TV_ok ?_; intro Kn hKn)
 ((simp (maxSteps := 1000000) only [xV_ty, xV_fn, xV_bin, xV_oi, xV_oc, xV_ok, VL,VM,↓VG,reduceIte,reduceCtorEq,zA,zB,zC,zD,zE,zF,zG,zH,zI,zJ]); rw [hKn];clear hKn Kn;simp only [QV,reduceIte,reduceCtorEq,Nat.reduceEqDiff])
 ((repeat refine Ws ?_);refine W_regionE TV_ok ?_; intro Kn hKn)
 ((simp (maxSteps := 1000000) only [xV_ty, xV_fn, xV_bin, xV_oi, xV_oc, xV_ok, VL,VM,↓VG,reduceIte,reduceCtorEq,zA,zB,zC,zD,zE,zF,zG,zH,zI,zJ]); rw [hKn];clear hKn Kn;simp only [QV,reduceIte,reduceCtorEq,Nat.reduceEqDiff])
 ((repeat refine Ws ?_);refine W_block ?_; (repeat refine Ws ?_)); refine W_loopS (fun (s : Nat × List VObj × Option (List St × Nat)) => [(1, stsV plan), (2, intsV free), (3, .ptr M.H.length 0), (8, E8 plan.length s.2.2), (9, vb ((plan.take s.1).all placed)), (10, vb s.2.2.isSome), (11, vi s.1)]) (fun s => ⟨M.H ++ .obj (yardC y) :: s.2.1, M.lg⟩) (fun s => plan.length - s.1) (fun s => s.1 ≤ plan.length ∧ s.2.2.map Prod.fst = (List.range s.1).foldl (stepI y S plan free) none ∧ (∀ b, s.2.2.map Prod.fst = some b → PB y b) ∧ ∀ b id, s.2.2 = some (b, id) → M.H.length ≤ id ∧ (M.H ++ .obj (yardC y) :: s.2.1)[id]? = some (.obj (stC b))) (0, [], none) ⟨by simp, by simp, fun b hb => (by cases hb), fun b id hb => (by cases hb)⟩ ⟨rfl, rfl, rfl, rfl, rfl, rfl, rfl, trivial⟩ rfl ?_
 rintro ⟨i, L, best⟩ ⟨hi, hbe, hbb, hbi⟩
 simp only at hi hbe hbb hbi
 have k1 : -9223372036854775808 ≤ (i : Int) + 1 ∧ (i : Int) + 1 < 9223372036854775808 := by omega
 ((repeat refine Ws ?_);refine W_regionE TV_ok ?_; intro Kn hKn)
 rcases Nat.lt_or_ge i plan.length with hlt | hge
 ·have k2 : ((i : Int) < (plan.length : Int)) = True := eq_true (by omega)
  have hi2 : i < y.carts.length := by omega
  have hx' := map_at (f := stP) (stAt_get hlt)
  have hy' := map_at (f := ctP) (ctAt_get hi2)
  have hall : (plan.take (i + 1)).all placed = ((plan.take i).all placed && placed (stAt plan i)) := by
   rw [List.take_add_one, stAt_get hlt]; simp
  have hrng : (List.range (i + 1)).foldl (stepI y S plan free) none = stepI y S plan free (best.map Prod.fst) i := by
   rw [List.range_succ, List.foldl_append, ← hbe]; rfl
  have c := hy.ct _ (ctAt_mem hi2)
  have cf0 := c.f0
  have cu1 := c.u1
  have ch1 := c.h1
  have cl0 := c.l0
  have clh := c.lh
  have hs0 := hy.s0
  have hs1 := hy.s1
  ((simp (maxSteps := 1000000) only [xV_ty, xV_fn, xV_bin, xV_oi, xV_oc, xV_ok, VL,VM,↓VG,reduceIte,reduceCtorEq,zA,zB,zC,zD,zE,zF,zG,zH,zI,zJ, k2]); rw [hKn];clear hKn Kn;simp only [QV,reduceIte,reduceCtorEq,Nat.reduceEqDiff])
  ((repeat refine Ws ?_);refine Wt (by first|rfl|simp only [EV,zF,reduceIte]) ?_)
  (((repeat refine Ws ?_);refine W_skip ?_); simp only [QV,reduceIte,reduceCtorEq,Nat.reduceEqDiff])
  ((repeat refine Ws ?_);refine W_block ?_)
  ((repeat refine Ws ?_);refine W_regionE TV_ok ?_; intro Kn hKn)
  by_cases h1 : 0 ≤ (stAt plan i).ramp
  ·have hpl : placed (stAt plan i) = true := decide_eq_true h1
   rw [hpl, Bool.and_true] at hall
   rw [stepI, if_pos h1] at hrng
   ((simp (maxSteps := 1000000) only [xV_ty, xV_fn, xV_bin, xV_oi, xV_oc, xV_ok, VL,VM,↓VG,reduceIte,reduceCtorEq,zA,zB,zC,zD,zE,zF,zG,zH,zI,zJ, hx', h1]); rw [hKn];clear hKn Kn;simp only [QV,reduceIte,reduceCtorEq,Nat.reduceEqDiff])
   ((repeat refine Ws ?_);refine Wt (by first|rfl|simp only [EV,zF,reduceIte]) ?_)
   (((repeat refine Ws ?_);refine W_exit ?_); simp only [QV,reduceIte,reduceCtorEq,Nat.reduceEqDiff])
   ((repeat refine Ws ?_);refine W_regionE TV_ok ?_; intro Kn hKn)
   ((simp (maxSteps := 1000000) only [xV_ty, xV_fn, xV_bin, xV_oi, xV_oc, xV_ok, VL,VM,↓VG,reduceIte,reduceCtorEq,zA,zB,zC,zD,zE,zF,zG,zH,zI,zJ, k1]); rw [hKn];clear hKn Kn;simp only [QV,reduceIte,reduceCtorEq,Nat.reduceEqDiff])
   refine LoopK.mk (i + 1, L, best) (by simp; omega) ⟨by simp; omega, hrng.symm, hbb, hbi⟩ ⟨rfl, rfl, rfl, rfl, ?_, rfl, rfl, trivial⟩ rfl
   rw [hall]; rfl
  ·have hpl : placed (stAt plan i) = false := decide_eq_false h1
   rw [hpl, Bool.and_false] at hall
   rw [stepI, if_neg h1] at hrng
   ((simp (maxSteps := 1000000) only [xV_ty, xV_fn, xV_bin, xV_oi, xV_oc, xV_ok, VL,VM,↓VG,reduceIte,reduceCtorEq,zA,zB,zC,zD,zE,zF,zG,zH,zI,zJ, hx', h1]); rw [hKn];clear hKn Kn;simp only [QV,reduceIte,reduceCtorEq,Nat.reduceEqDiff])
   ((repeat refine Ws ?_);refine Wf (by first|rfl|simp only [EV,zF,reduceIte]) ?_)
   (((repeat refine Ws ?_);refine W_skip ?_); simp only [QV,reduceIte,reduceCtorEq,Nat.reduceEqDiff])
   ((repeat refine Ws ?_);refine W_regionE TV_ok ?_; intro Kn hKn)
   ((simp (maxSteps := 1000000) only [xV_ty, xV_fn, xV_bin, xV_oi, xV_oc, xV_ok, VL,VM,↓VG,reduceIte,reduceCtorEq,zA,zB,zC,zD,zE,zF,zG,zH,zI,zJ]); rw [hKn];clear hKn Kn;simp only [QV,reduceIte,reduceCtorEq,Nat.reduceEqDiff])
   ((repeat refine Ws ?_);refine W_regionE TV_ok ?_; intro Kn hKn)
   ((simp (maxSteps := 1000000) only [xV_ty, xV_fn, xV_bin, xV_oi, xV_oc, xV_ok, VL,VM,↓VG,reduceIte,reduceCtorEq,zA,zB,zC,zD,zE,zF,zG,zH,zI,zJ, hy']); rw [hKn];clear hKn Kn;simp only [QV,reduceIte,reduceCtorEq,Nat.reduceEqDiff])
   obtain ⟨H1, hH1⟩ : ∃ H1, H1 = M.H ++ VObj.obj (yardC y) :: (L ++ [.obj (ctC (ctAt y i))]) := ⟨_, rfl⟩
   obtain ⟨n12, hn12⟩ : ∃ n12, n12 = M.H.length + (L.length + 1) := ⟨_, rfl⟩
   have g1 : ∀ X, (H1 ++ X)[M.H.length]? = some (.obj (yardC y)) := fun X => by rw [hH1]; simp
   have g2 : ∀ X, (H1 ++ X)[n12]? = some (.obj (ctC (ctAt y i))) := fun X => by rw [hH1, hn12]; simp
   have hfold : ∀ k, k ≤ (ctAt y i).ramps.length → ∀ b, ((ctAt y i).ramps.take k).foldl (stepK y S plan free i) (best.map Prod.fst) = some b → PB y b := by
    intro k hk
    refine fold_inv (p := fun best : Option (List St) => ∀ b, best = some b → PB y b) hbb fun r hr best hbest b hbs => ?_
    have hr2 := c.r r (List.mem_of_mem_take hr)
    unfold stepK at hbs
    split at hbs
    ·exact hbest b hbs
    ·rename_i q hq
     split at hbs
     ·exact hbest b hbs
     ·rename_i z hz
      rcases better_some hbs with rfl | h2
      ·exact hSp _ _ (servC_ok hy hsv hlt hr2.1 hr2.2 hq) _ hz
      ·exact hbest b h2
   ((repeat refine Ws ?_);refine W_regionE TV_ok ?_; intro Kn hKn)
   ((simp (maxSteps := 1000000) only [xV_ty, xV_fn, xV_bin, xV_oi, xV_oc, xV_ok, VL,VM,↓VG,reduceIte,reduceCtorEq,zA,zB,zC,zD,zE,zF,zG,zH,zI,zJ]); rw [hKn];clear hKn Kn;simp only [QV,reduceIte,reduceCtorEq,Nat.reduceEqDiff])
   ((repeat refine Ws ?_);refine W_block ?_; (repeat refine Ws ?_)); refine W_loopS (fun (s : Nat × List VObj × Option (List St × Nat)) => [(1, stsV plan), (2, intsV free), (3, .ptr M.H.length 0), (8, E8 plan.length s.2.2), (9, vb false), (10, vb s.2.2.isSome), (11, vi i), (12, .ptr n12 0), (13, vi s.1)]) (fun s => ⟨H1 ++ s.2.1, M.lg⟩) (fun s => (ctAt y i).ramps.length - s.1) (fun s => s.1 ≤ (ctAt y i).ramps.length ∧ s.2.2.map Prod.fst = ((ctAt y i).ramps.take s.1).foldl (stepK y S plan free i) (best.map Prod.fst) ∧ ∀ b id, s.2.2 = some (b, id) → M.H.length ≤ id ∧ (H1 ++ s.2.1)[id]? = some (.obj (stC b))) (0, [], best) ⟨by simp, by simp, fun b id h => by obtain ⟨hm0, this⟩ := hbi b id h; refine ⟨hm0, ?_⟩; rw [hH1, List.append_nil, ← List.cons_append, ← List.append_assoc, List.getElem?_append_left (List.getElem?_eq_some_iff.1 this).1]; exact this⟩ ⟨rfl, rfl, rfl, rfl, rfl, rfl, rfl, by rw [hn12]; rfl, rfl, trivial⟩ (by rw [hH1]; simp) ?_
   ·rintro ⟨k, L2, bk⟩ ⟨hk, hbk, hbki⟩
    simp only at hk hbk hbki
    have hbkb : ∀ b, bk.map Prod.fst = some b → PB y b := fun b hb => hfold k hk b (by rw [← hbk]; exact hb)
    have hk8 : (ctAt y i).ramps.length ≤ 1000000 := by
     have a1 := asc_len c.asc (a := 0) (b := y.ramps.length) c.r
     have a2 := hy.n1
     omega
    have j1 : -9223372036854775808 ≤ (k : Int) + 1 ∧ (k : Int) + 1 < 9223372036854775808 := by omega
    ((repeat refine Ws ?_);refine W_regionE TV_ok ?_; intro Kn hKn)
    rcases Nat.lt_or_ge k (ctAt y i).ramps.length with hlt2 | hge2
    ·have j2 : ((k : Int) < ((ctAt y i).ramps.length : Int)) = True := eq_true (by omega)
     have hr : (ctAt y i).ramps[k]? = some (ctAt y i).ramps[k] := List.getElem?_eq_getElem hlt2
     have hr' := map_at (f := intP) hr
     have hrv := c.r _ (List.getElem_mem hlt2)
     have htk : ((ctAt y i).ramps.take (k + 1)).foldl (stepK y S plan free i) (best.map Prod.fst) = stepK y S plan free i (bk.map Prod.fst) (ctAt y i).ramps[k] := by
      rw [List.take_add_one, hr, List.foldl_append, ← hbk]; rfl
     generalize (ctAt y i).ramps[k] = r at hr hr' hrv htk
     obtain ⟨hr0, hr1⟩ := hrv
     have hrt : r.toNat < free.length := by omega
     have hz' := map_at (f := raP) (raAt_get hr0 hr1)
     have hw' := map_at (f := intP) (tkAt_get hrt)
     have hfr := hsv.fr _ hrt
     have hcb := candF_bd (free := free) (i := i) (r := r) hy hi2 hr0 hr1 hfr
     obtain ⟨A, hA⟩ : ∃ A, A = candF y free i r := ⟨_, rfl⟩
     have hA2 : max (ctAt y i).from_ (max (raAt y r).open_ (tkAt free r.toNat)) = A := by rw [hA]; rfl
     rw [← hA] at hcb
     have j3 : -9223372036854775808 ≤ A + (ctAt y i).takes.hi ∧ A + (ctAt y i).takes.hi < 9223372036854775808 := by omega
     have j4 : -9223372036854775808 ≤ A + (ctAt y i).takes.hi + y.sweep ∧ A + (ctAt y i).takes.hi + y.sweep < 9223372036854775808 := by omega
     have hsc : servC y plan free i r = servC y plan free i r := rfl
     conv at hsc => rhs; unfold servC
     rw [← hA] at hsc
     ((simp (maxSteps := 1000000) only [xV_ty, xV_fn, xV_bin, xV_oi, xV_oc, xV_ok, VL,VM,↓VG,reduceIte,reduceCtorEq,zA,zB,zC,zD,zE,zF,zG,zH,zI,zJ, j2, g1, g2]); rw [hKn];clear hKn Kn;simp only [QV,reduceIte,reduceCtorEq,Nat.reduceEqDiff])
     ((repeat refine Ws ?_);refine Wt (by first|rfl|simp only [EV,zF,reduceIte]) ?_)
     (((repeat refine Ws ?_);refine W_skip ?_); simp only [QV,reduceIte,reduceCtorEq,Nat.reduceEqDiff])
     ((repeat refine Ws ?_);refine W_block ?_)
     ((repeat refine Ws ?_);refine W_regionE TV_ok ?_; intro Kn hKn)
     ((simp (maxSteps := 1000000) only [xV_ty, xV_fn, xV_bin, xV_oi, xV_oc, xV_ok, VL,VM,↓VG,reduceIte,reduceCtorEq,zA,zB,zC,zD,zE,zF,zG,zH,zI,zJ, g1, g2, hr']); rw [hKn];clear hKn Kn;simp only [QV,reduceIte,reduceCtorEq,Nat.reduceEqDiff])
     ((repeat refine Ws ?_);refine W_regionE TV_ok ?_; intro Kn hKn)
     ((simp (maxSteps := 1000000) only [xV_ty, xV_fn, xV_bin, xV_oi, xV_oc, xV_ok, VL,VM,↓VG,reduceIte,reduceCtorEq,zA,zB,zC,zD,zE,zF,zG,zH,zI,zJ, g1, g2, hr0, hz']); rw [hKn];clear hKn Kn;simp only [QV,reduceIte,reduceCtorEq,Nat.reduceEqDiff])
     (repeat refine Ws ?_)
     refine W_drawE TV_ok [] (by kernel_rfl) (by kernel_rfl) ?_
     intro Kn hKn
     generalize hi : mkPlan _ = infs
     cbv at hi
     subst hi
     ((simp (maxSteps := 1000000) only [xV_ty, xV_fn, xV_bin, xV_oi, xV_oc, xV_ok, VL,VM,↓VG,reduceIte,reduceCtorEq,zA,zB,zC,zD,zE,zF,zG,zH,zI,zJ, g1, g2, hr0, hw', hA2]); rw [hKn];clear hKn Kn;simp only [QV,reduceIte,reduceCtorEq,Nat.reduceEqDiff])
     ((repeat refine Ws ?_);refine W_regionE TV_ok ?_; intro Kn hKn)
     ((simp (maxSteps := 1000000) only [xV_ty, xV_fn, xV_bin, xV_oi, xV_oc, xV_ok, VL,VM,↓VG,reduceIte,reduceCtorEq,zA,zB,zC,zD,zE,zF,zG,zH,zI,zJ, g1, g2, j3]); rw [hKn];clear hKn Kn;simp only [QV,reduceIte,reduceCtorEq,Nat.reduceEqDiff])
     ((repeat refine Ws ?_);refine W_regionE TV_ok ?_; intro Kn hKn)
     have hskip : servC y plan free i r = none → ((ctAt y i).ramps.take (k + 1)).foldl (stepK y S plan free i) (best.map Prod.fst) = bk.map Prod.fst := fun h => by
      rw [htk, stepK, h]
     by_cases b1 : (raAt y r).bears < (ctAt y i).grams
     ·((simp (maxSteps := 1000000) only [xV_ty, xV_fn, xV_bin, xV_oi, xV_oc, xV_ok, VL,VM,↓VG,reduceIte,reduceCtorEq,zA,zB,zC,zD,zE,zF,zG,zH,zI,zJ, g1, g2, b1]); rw [hKn];clear hKn Kn;simp only [QV,reduceIte,reduceCtorEq,Nat.reduceEqDiff])
      ((repeat refine Ws ?_);refine Wt (by first|rfl|simp only [EV,zF,reduceIte]) ?_)
      (((repeat refine Ws ?_);refine W_exit ?_); simp only [QV,reduceIte,reduceCtorEq,Nat.reduceEqDiff])
      ((repeat refine Ws ?_);refine W_regionE TV_ok ?_; intro Kn hKn)
      ((simp (maxSteps := 1000000) only [xV_ty, xV_fn, xV_bin, xV_oi, xV_oc, xV_ok, VL,VM,↓VG,reduceIte,reduceCtorEq,zA,zB,zC,zD,zE,zF,zG,zH,zI,zJ, j1]); rw [hKn];clear hKn Kn;simp only [QV,reduceIte,reduceCtorEq,Nat.reduceEqDiff])
      exact LoopK.mk (k + 1, _, bk) (by simp; omega) ⟨by simp; omega, (hskip (by rw [hsc, if_pos b1])).symm, keepL _ hbki⟩ ⟨rfl, rfl, rfl, rfl, rfl, rfl, rfl, rfl, rfl, trivial⟩ rfl
     rw [if_neg b1] at hsc
     by_cases b2 : (ctAt y i).until_ < A + (ctAt y i).takes.hi
     ·((simp (maxSteps := 1000000) only [xV_ty, xV_fn, xV_bin, xV_oi, xV_oc, xV_ok, VL,VM,↓VG,reduceIte,reduceCtorEq,zA,zB,zC,zD,zE,zF,zG,zH,zI,zJ, g1, g2, b1, b2]); rw [hKn];clear hKn Kn;simp only [QV,reduceIte,reduceCtorEq,Nat.reduceEqDiff])
      ((repeat refine Ws ?_);refine Wt (by first|rfl|simp only [EV,zF,reduceIte]) ?_)
      (((repeat refine Ws ?_);refine W_exit ?_); simp only [QV,reduceIte,reduceCtorEq,Nat.reduceEqDiff])
      ((repeat refine Ws ?_);refine W_regionE TV_ok ?_; intro Kn hKn)
      ((simp (maxSteps := 1000000) only [xV_ty, xV_fn, xV_bin, xV_oi, xV_oc, xV_ok, VL,VM,↓VG,reduceIte,reduceCtorEq,zA,zB,zC,zD,zE,zF,zG,zH,zI,zJ, j1]); rw [hKn];clear hKn Kn;simp only [QV,reduceIte,reduceCtorEq,Nat.reduceEqDiff])
      exact LoopK.mk (k + 1, _, bk) (by simp; omega) ⟨by simp; omega, (hskip (by rw [hsc, if_pos b2])).symm, keepL _ hbki⟩ ⟨rfl, rfl, rfl, rfl, rfl, rfl, rfl, rfl, rfl, trivial⟩ rfl
     rw [if_neg b2] at hsc
     by_cases b3 : (raAt y r).shut < A + (ctAt y i).takes.hi
     ·((simp (maxSteps := 1000000) only [xV_ty, xV_fn, xV_bin, xV_oi, xV_oc, xV_ok, VL,VM,↓VG,reduceIte,reduceCtorEq,zA,zB,zC,zD,zE,zF,zG,zH,zI,zJ, g1, g2, b1, b2, b3]); rw [hKn];clear hKn Kn;simp only [QV,reduceIte,reduceCtorEq,Nat.reduceEqDiff])
      ((repeat refine Ws ?_);refine Wt (by first|rfl|simp only [EV,zF,reduceIte]) ?_)
      (((repeat refine Ws ?_);refine W_exit ?_); simp only [QV,reduceIte,reduceCtorEq,Nat.reduceEqDiff])
      ((repeat refine Ws ?_);refine W_regionE TV_ok ?_; intro Kn hKn)
      ((simp (maxSteps := 1000000) only [xV_ty, xV_fn, xV_bin, xV_oi, xV_oc, xV_ok, VL,VM,↓VG,reduceIte,reduceCtorEq,zA,zB,zC,zD,zE,zF,zG,zH,zI,zJ, j1]); rw [hKn];clear hKn Kn;simp only [QV,reduceIte,reduceCtorEq,Nat.reduceEqDiff])
      exact LoopK.mk (k + 1, _, bk) (by simp; omega) ⟨by simp; omega, (hskip (by rw [hsc, if_pos b3])).symm, keepL _ hbki⟩ ⟨rfl, rfl, rfl, rfl, rfl, rfl, rfl, rfl, rfl, trivial⟩ rfl
     rw [if_neg b3] at hsc
     ((simp (maxSteps := 1000000) only [xV_ty, xV_fn, xV_bin, xV_oi, xV_oc, xV_ok, VL,VM,↓VG,reduceIte,reduceCtorEq,zA,zB,zC,zD,zE,zF,zG,zH,zI,zJ, g1, g2, b1, b2, b3]); rw [hKn];clear hKn Kn;simp only [QV,reduceIte,reduceCtorEq,Nat.reduceEqDiff])
     ((repeat refine Ws ?_);refine Wf (by first|rfl|simp only [EV,zF,reduceIte]) ?_)
     (((repeat refine Ws ?_);refine W_skip ?_); simp only [QV,reduceIte,reduceCtorEq,Nat.reduceEqDiff])
     have hq : servC y plan free i r = some (plan.set i ⟨r, A⟩, free.set r.toNat (A + (ctAt y i).takes.hi + y.sweep)) := hsc
     have hok := servC_ok hy hsv hlt hr0 hr1 hq
     have hu := servC_un hlt hr0 h1 hq
     simp only at hok hu
     have hc1 : (i * 2 + 2 ≤ (stC plan).length) = True := eq_true (by rw [stC_len]; omega)
     have hc2 : (r.toNat + 1 ≤ free.length) = True := eq_true (by omega)
     ((repeat refine Ws ?_);refine W_regionE TV_ok ?_; intro Kn hKn)
     ((simp (maxSteps := 1000000) only [xV_ty, xV_fn, xV_bin, xV_oi, xV_oc, xV_ok, VL,VM,↓VG,reduceIte,reduceCtorEq,zA,zB,zC,zD,zE,zF,zG,zH,zI,zJ, g1, g2, q16, q8]); rw [hKn];clear hKn Kn;simp only [QV,reduceIte,reduceCtorEq,Nat.reduceEqDiff])
     rw [flat_sts, flat_ints]
     (repeat refine Ws ?_)
     refine W_drawE TV_ok [] (by kernel_rfl) (by kernel_rfl) ?_
     intro Kn hKn
     generalize hi : mkPlan _ = infs
     cbv at hi
     subst hi
     ((simp (maxSteps := 1000000) only [xV_ty, xV_fn, xV_bin, xV_oi, xV_oc, xV_ok, VL,VM,↓VG,reduceIte,reduceCtorEq,zA,zB,zC,zD,zE,zF,zG,zH,zI,zJ, g1, g2, hlt, hrt, hr0, hc1, hc2, j4]); rw [hKn];clear hKn Kn;simp only [QV,reduceIte,reduceCtorEq,Nat.reduceEqDiff])
     rw [st_put hlt, in_put hrt]
     (repeat refine Ws ?_)
     refine W_frzT (t := 19) (id := H1.length + (L2.length + 2)) (n := free.length) (k := 1) (xs := (free.set r.toNat (A + (ctAt y i).takes.hi + y.sweep)).map intP) (by rw [flat_ints, hget, hget]; rfl) rfl (fun x hx => by obtain ⟨z, _, rfl⟩ := List.mem_map.1 hx; rfl) (by simp) ?_
     simp only [hset, List.set_cons_succ, List.set_cons_zero]
     ((repeat refine Ws ?_);refine W_regionE TV_ok ?_; intro Kn hKn)
     simp (maxSteps := 1000000) only [xV_ty, xV_fn, xV_bin, xV_oi, xV_oc, xV_ok, VL,VM,↓VG,reduceIte,reduceCtorEq,zA,zB,zC,zD,zE,zF,zG,zH,zI,zJ, g1, g2]
     refine fn_call (f := 80) (fn := Try.f80) (by kernel_rfl) (by rfl) ?_
     refine (hSx _ _ hok hu _ (H1.length + (L2.length + 1)) (by rw [hget, hget]; rfl) M.H.length (by rw [hH1]; simp only [List.length_append]; omega)).mono ?_
     rintro r' _ ⟨H', rfl, hr9, hlen9, hkeep⟩
     simp only [List.length_append, List.length_cons, List.length_nil] at hlen9 hkeep
     obtain ⟨L3, hL3⟩ := app_of (H' := H') (H1 := H1) (by omega) (fun j hj => by rw [hkeep j (by omega) (by omega), List.getElem?_append_left hj])
     have hkp : ∀ b id, bk = some (b, id) → M.H.length ≤ id ∧ H'[id]? = some (.obj (stC b)) := fun b id h => by
      obtain ⟨hm0, h0⟩ := hbki b id h
      refine ⟨hm0, ?_⟩
      have hlt0 := (List.getElem?_eq_some_iff.1 h0).1
      rw [List.length_append] at hlt0
      rw [hkeep id (by omega) (by omega)]
      exact (keepL _ hbki b id h).2
     subst hL3
     have g1 := g1
     have g2 := g2
     clear hkeep hlen9
     generalize hSv : S (plan.set i ⟨r, A⟩) (free.set r.toNat (A + (ctAt y i).takes.hi + y.sweep)) = sv at hr9
     have hsvb := fun x h => hSp _ _ hok x (hSv.trans h)
     have hk1 : stepK y S plan free i (bk.map Prod.fst) r = sv.elim (bk.map Prod.fst) (better y (bk.map Prod.fst)) := by
      rw [stepK, hq]
      simp only [hSv]
      cases sv <;> rfl
     cases sv with
     | none =>
      obtain rfl : r' = .tup [stsV [], vb false] := hr9
      ((simp (maxSteps := 1000000) only [xV_ty, xV_fn, xV_bin, xV_oi, xV_oc, xV_ok, VL,VM,↓VG,reduceIte,reduceCtorEq,zA,zB,zC,zD,zE,zF,zG,zH,zI,zJ]); rw [hKn];clear hKn Kn;simp only [QV,reduceIte,reduceCtorEq,Nat.reduceEqDiff])
      (repeat refine Ws ?_)
      refine W_drawE TV_ok [] (by kernel_rfl) (by kernel_rfl) ?_
      intro Kn hKn
      generalize hi : mkPlan _ = infs
      cbv at hi
      subst hi
      ((simp (maxSteps := 1000000) only [xV_ty, xV_fn, xV_bin, xV_oi, xV_oc, xV_ok, VL,VM,↓VG,reduceIte,reduceCtorEq,zA,zB,zC,zD,zE,zF,zG,zH,zI,zJ, g1, g2]); rw [hKn];clear hKn Kn;simp only [QV,reduceIte,reduceCtorEq,Nat.reduceEqDiff])
      ((repeat refine Ws ?_);refine Wf (by first|rfl|simp only [EV,zF,reduceIte]) ?_)
      (((repeat refine Ws ?_);refine W_skip ?_); simp only [QV,reduceIte,reduceCtorEq,Nat.reduceEqDiff])
      ((repeat refine Ws ?_);refine W_regionE TV_ok ?_; intro Kn hKn)
      ((simp (maxSteps := 1000000) only [xV_ty, xV_fn, xV_bin, xV_oi, xV_oc, xV_ok, VL,VM,↓VG,reduceIte,reduceCtorEq,zA,zB,zC,zD,zE,zF,zG,zH,zI,zJ, j1]); rw [hKn];clear hKn Kn;simp only [QV,reduceIte,reduceCtorEq,Nat.reduceEqDiff])
      exact LoopK.mk (k + 1, L3, bk) (by simp; omega) ⟨by simp; omega, (htk.trans hk1).symm, hkp⟩ ⟨rfl, rfl, rfl, rfl, rfl, rfl, rfl, rfl, rfl, trivial⟩ rfl
     | some x =>
      obtain ⟨idx, rfl, hmx, hidx⟩ := hr9
      have hpx := hsvb x rfl
      have hxp : x.length = plan.length := hpx.1.trans hl.symm
      simp only [Option.elim_some] at hk1
      ((simp (maxSteps := 1000000) only [xV_ty, xV_fn, xV_bin, xV_oi, xV_oc, xV_ok, VL,VM,↓VG,reduceIte,reduceCtorEq,zA,zB,zC,zD,zE,zF,zG,zH,zI,zJ]); rw [hKn];clear hKn Kn;simp only [QV,reduceIte,reduceCtorEq,Nat.reduceEqDiff])
      cases bk with
      | none =>
       (repeat refine Ws ?_)
       refine W_drawE TV_ok [] (by kernel_rfl) (by kernel_rfl) ?_
       intro Kn hKn
       generalize hi : mkPlan _ = infs
       cbv at hi
       subst hi
       ((simp (maxSteps := 1000000) only [xV_ty, xV_fn, xV_bin, xV_oi, xV_oc, xV_ok, VL,VM,↓VG,reduceIte,reduceCtorEq,zA,zB,zC,zD,zE,zF,zG,zH,zI,zJ, g1, g2, Option.isSome_none]); rw [hKn];clear hKn Kn;simp only [QV,reduceIte,reduceCtorEq,Nat.reduceEqDiff])
       ((repeat refine Ws ?_);refine Wt (by first|rfl|simp only [EV,zF,reduceIte]) ?_)
       ((repeat refine Ws ?_);refine W_regionE TV_ok ?_; intro Kn hKn)
       ((simp (maxSteps := 1000000) only [xV_ty, xV_fn, xV_bin, xV_oi, xV_oc, xV_ok, VL,VM,↓VG,reduceIte,reduceCtorEq,zA,zB,zC,zD,zE,zF,zG,zH,zI,zJ]); rw [hKn];clear hKn Kn;simp only [QV,reduceIte,reduceCtorEq,Nat.reduceEqDiff])
       ((repeat refine Ws ?_);refine W_regionE TV_ok ?_; intro Kn hKn)
       ((simp (maxSteps := 1000000) only [xV_ty, xV_fn, xV_bin, xV_oi, xV_oc, xV_ok, VL,VM,↓VG,reduceIte,reduceCtorEq,zA,zB,zC,zD,zE,zF,zG,zH,zI,zJ, j1]); rw [hKn];clear hKn Kn;simp only [QV,reduceIte,reduceCtorEq,Nat.reduceEqDiff])
       exact LoopK.mk (k + 1, L3, some (x, idx)) (by simp; omega) ⟨by simp; omega, (htk.trans hk1).symm, fun b id h => by cases h; exact ⟨hmx, hidx⟩⟩ ⟨rfl, rfl, rfl, rfl, rfl, rfl, rfl, rfl, rfl, trivial⟩ rfl
      | some bb =>
       obtain ⟨b, idb⟩ := bb
       have hidb := (hkp b idb rfl).2
       have hpb := hbkb b rfl
       have hbp : b.length = plan.length := hpb.1.trans hl.symm
       have hlx : VC Try.prog 40 [yardV y, .bf idx 0 plan.length 2] ⟨H1 ++ L3, M.lg⟩ (fun r M' => M' = ⟨H1 ++ L3, M.lg⟩ ∧ r = vi (lastV y x)) := by
        rw [← hxp]; exact last_b hy hpx _ idx hidx
       have hlb : VC Try.prog 40 [yardV y, .bf idb 0 plan.length 2] ⟨H1 ++ L3, M.lg⟩ (fun r M' => M' = ⟨H1 ++ L3, M.lg⟩ ∧ r = vi (lastV y b)) := by
        rw [← hbp]; exact last_b hy hpb _ idb hidb
       have hbf : VC Try.prog 76 [.bf idx 0 plan.length 2, .bf idb 0 plan.length 2] ⟨H1 ++ L3, M.lg⟩ (fun r M' => M' = ⟨H1 ++ L3, M.lg⟩ ∧ r = vb (beforeB x b)) := by
        have h := before_b x b ⟨H1 ++ L3, M.lg⟩ idx idb hidx hidb (by omega) (by omega)
        rwa [hxp, hbp] at h
       have hk2 : better y (some b) x = better y (some b) x := rfl
       conv at hk2 => rhs; unfold better
       simp only [Option.map_some] at hk2 hk1
       rw [hk2] at hk1
       (repeat refine Ws ?_)
       refine W_drawE TV_ok [] (by kernel_rfl) (by kernel_rfl) ?_
       intro Kn hKn
       generalize hi : mkPlan _ = infs
       cbv at hi
       subst hi
       simp (maxSteps := 1000000) only [xV_ty, xV_fn, xV_bin, xV_oi, xV_oc, xV_ok, VL,VM,↓VG,reduceIte,reduceCtorEq,zA,zB,zC,zD,zE,zF,zG,zH,zI,zJ, g1, g2, Option.isSome_some, E8]
       apply call_d (f := 40) (fn := Try.f40) (by kernel_rfl) (by rfl)
       ·exact hlx
       simp (maxSteps := 1000000) only [xV_ty, xV_fn, xV_bin, xV_oi, xV_oc, xV_ok, VL,VM,↓VG,reduceIte,reduceCtorEq,zA,zB,zC,zD,zE,zF,zG,zH,zI,zJ, g1, g2, E8]
       apply call_d (f := 40) (fn := Try.f40) (by kernel_rfl) (by rfl)
       ·exact hlb
       by_cases e1 : lastV y x < lastV y b
       ·rw [if_pos e1] at hk1
        ((simp (maxSteps := 1000000) only [xV_ty, xV_fn, xV_bin, xV_oi, xV_oc, xV_ok, VL,VM,↓VG,reduceIte,reduceCtorEq,zA,zB,zC,zD,zE,zF,zG,zH,zI,zJ, g1, g2, e1]); rw [hKn];clear hKn Kn;simp only [QV,reduceIte,reduceCtorEq,Nat.reduceEqDiff])
        ((repeat refine Ws ?_);refine Wt (by first|rfl|simp only [EV,zF,reduceIte]) ?_)
        ((repeat refine Ws ?_);refine W_regionE TV_ok ?_; intro Kn hKn)
        ((simp (maxSteps := 1000000) only [xV_ty, xV_fn, xV_bin, xV_oi, xV_oc, xV_ok, VL,VM,↓VG,reduceIte,reduceCtorEq,zA,zB,zC,zD,zE,zF,zG,zH,zI,zJ]); rw [hKn];clear hKn Kn;simp only [QV,reduceIte,reduceCtorEq,Nat.reduceEqDiff])
        ((repeat refine Ws ?_);refine W_regionE TV_ok ?_; intro Kn hKn)
        ((simp (maxSteps := 1000000) only [xV_ty, xV_fn, xV_bin, xV_oi, xV_oc, xV_ok, VL,VM,↓VG,reduceIte,reduceCtorEq,zA,zB,zC,zD,zE,zF,zG,zH,zI,zJ, j1]); rw [hKn];clear hKn Kn;simp only [QV,reduceIte,reduceCtorEq,Nat.reduceEqDiff])
        exact LoopK.mk (k + 1, L3, some (x, idx)) (by simp; omega) ⟨by simp; omega, (htk.trans hk1).symm, fun b id h => by cases h; exact ⟨hmx, hidx⟩⟩ ⟨rfl, rfl, rfl, rfl, rfl, rfl, rfl, rfl, rfl, trivial⟩ rfl
       rw [if_neg e1] at hk1
       simp (maxSteps := 1000000) only [xV_ty, xV_fn, xV_bin, xV_oi, xV_oc, xV_ok, VL,VM,↓VG,reduceIte,reduceCtorEq,zA,zB,zC,zD,zE,zF,zG,zH,zI,zJ, g1, g2, e1, E8]
       apply call_d (f := 40) (fn := Try.f40) (by kernel_rfl) (by rfl)
       ·exact hlx
       simp (maxSteps := 1000000) only [xV_ty, xV_fn, xV_bin, xV_oi, xV_oc, xV_ok, VL,VM,↓VG,reduceIte,reduceCtorEq,zA,zB,zC,zD,zE,zF,zG,zH,zI,zJ, g1, g2, E8]
       apply call_d (f := 40) (fn := Try.f40) (by kernel_rfl) (by rfl)
       ·exact hlb
       by_cases e2 : lastV y x = lastV y b
       ·rw [if_pos e2] at hk1
        simp (maxSteps := 1000000) only [xV_ty, xV_fn, xV_bin, xV_oi, xV_oc, xV_ok, VL,VM,↓VG,reduceIte,reduceCtorEq,zA,zB,zC,zD,zE,zF,zG,zH,zI,zJ, g1, g2, e2, E8]
        apply call_d (f := 76) (fn := Try.f76) (by kernel_rfl) (by rfl)
        ·exact hbf
        cases e3 : beforeB x b
        ·rw [e3, if_neg (by decide)] at hk1
         ((simp (maxSteps := 1000000) only [xV_ty, xV_fn, xV_bin, xV_oi, xV_oc, xV_ok, VL,VM,↓VG,reduceIte,reduceCtorEq,zA,zB,zC,zD,zE,zF,zG,zH,zI,zJ, g1, g2]); rw [hKn];clear hKn Kn;simp only [QV,reduceIte,reduceCtorEq,Nat.reduceEqDiff])
         ((repeat refine Ws ?_);refine Wf (by first|rfl|simp only [EV,zF,reduceIte]) ?_)
         (((repeat refine Ws ?_);refine W_skip ?_); simp only [QV,reduceIte,reduceCtorEq,Nat.reduceEqDiff])
         ((repeat refine Ws ?_);refine W_regionE TV_ok ?_; intro Kn hKn)
         ((simp (maxSteps := 1000000) only [xV_ty, xV_fn, xV_bin, xV_oi, xV_oc, xV_ok, VL,VM,↓VG,reduceIte,reduceCtorEq,zA,zB,zC,zD,zE,zF,zG,zH,zI,zJ, j1]); rw [hKn];clear hKn Kn;simp only [QV,reduceIte,reduceCtorEq,Nat.reduceEqDiff])
         exact LoopK.mk (k + 1, L3, some (b, idb)) (by simp; omega) ⟨by simp; omega, (htk.trans hk1).symm, hkp⟩ ⟨rfl, rfl, rfl, rfl, rfl, rfl, rfl, rfl, rfl, trivial⟩ rfl
        ·rw [e3, if_pos rfl] at hk1
         ((simp (maxSteps := 1000000) only [xV_ty, xV_fn, xV_bin, xV_oi, xV_oc, xV_ok, VL,VM,↓VG,reduceIte,reduceCtorEq,zA,zB,zC,zD,zE,zF,zG,zH,zI,zJ, g1, g2]); rw [hKn];clear hKn Kn;simp only [QV,reduceIte,reduceCtorEq,Nat.reduceEqDiff])
         ((repeat refine Ws ?_);refine Wt (by first|rfl|simp only [EV,zF,reduceIte]) ?_)
         ((repeat refine Ws ?_);refine W_regionE TV_ok ?_; intro Kn hKn)
         ((simp (maxSteps := 1000000) only [xV_ty, xV_fn, xV_bin, xV_oi, xV_oc, xV_ok, VL,VM,↓VG,reduceIte,reduceCtorEq,zA,zB,zC,zD,zE,zF,zG,zH,zI,zJ]); rw [hKn];clear hKn Kn;simp only [QV,reduceIte,reduceCtorEq,Nat.reduceEqDiff])
         ((repeat refine Ws ?_);refine W_regionE TV_ok ?_; intro Kn hKn)
         ((simp (maxSteps := 1000000) only [xV_ty, xV_fn, xV_bin, xV_oi, xV_oc, xV_ok, VL,VM,↓VG,reduceIte,reduceCtorEq,zA,zB,zC,zD,zE,zF,zG,zH,zI,zJ, j1]); rw [hKn];clear hKn Kn;simp only [QV,reduceIte,reduceCtorEq,Nat.reduceEqDiff])
         exact LoopK.mk (k + 1, L3, some (x, idx)) (by simp; omega) ⟨by simp; omega, (htk.trans hk1).symm, fun b id h => by cases h; exact ⟨hmx, hidx⟩⟩ ⟨rfl, rfl, rfl, rfl, rfl, rfl, rfl, rfl, rfl, trivial⟩ rfl
       ·rw [if_neg e2] at hk1
        ((simp (maxSteps := 1000000) only [xV_ty, xV_fn, xV_bin, xV_oi, xV_oc, xV_ok, VL,VM,↓VG,reduceIte,reduceCtorEq,zA,zB,zC,zD,zE,zF,zG,zH,zI,zJ, g1, g2, e2]); rw [hKn];clear hKn Kn;simp only [QV,reduceIte,reduceCtorEq,Nat.reduceEqDiff])
        ((repeat refine Ws ?_);refine Wf (by first|rfl|simp only [EV,zF,reduceIte]) ?_)
        (((repeat refine Ws ?_);refine W_skip ?_); simp only [QV,reduceIte,reduceCtorEq,Nat.reduceEqDiff])
        ((repeat refine Ws ?_);refine W_regionE TV_ok ?_; intro Kn hKn)
        ((simp (maxSteps := 1000000) only [xV_ty, xV_fn, xV_bin, xV_oi, xV_oc, xV_ok, VL,VM,↓VG,reduceIte,reduceCtorEq,zA,zB,zC,zD,zE,zF,zG,zH,zI,zJ, j1]); rw [hKn];clear hKn Kn;simp only [QV,reduceIte,reduceCtorEq,Nat.reduceEqDiff])
        exact LoopK.mk (k + 1, L3, some (b, idb)) (by simp; omega) ⟨by simp; omega, (htk.trans hk1).symm, hkp⟩ ⟨rfl, rfl, rfl, rfl, rfl, rfl, rfl, rfl, rfl, trivial⟩ rfl
    ·have j2 : ((k : Int) < ((ctAt y i).ramps.length : Int)) = False := eq_false (by omega)
     obtain rfl : k = (ctAt y i).ramps.length := by omega
     rw [List.take_length, ← hrng] at hbk
     ((simp (maxSteps := 1000000) only [xV_ty, xV_fn, xV_bin, xV_oi, xV_oc, xV_ok, VL,VM,↓VG,reduceIte,reduceCtorEq,zA,zB,zC,zD,zE,zF,zG,zH,zI,zJ, j2, g1, g2]); rw [hKn];clear hKn Kn;simp only [QV,reduceIte,reduceCtorEq,Nat.reduceEqDiff])
     ((repeat refine Ws ?_);refine Wf (by first|rfl|simp only [EV,zF,reduceIte]) ?_)
     (((repeat refine Ws ?_);refine W_exit ?_); simp only [QV,reduceIte,reduceCtorEq,Nat.reduceEqDiff])
     ((repeat refine Ws ?_);refine W_regionE TV_ok ?_; intro Kn hKn)
     ((simp (maxSteps := 1000000) only [xV_ty, xV_fn, xV_bin, xV_oi, xV_oc, xV_ok, VL,VM,↓VG,reduceIte,reduceCtorEq,zA,zB,zC,zD,zE,zF,zG,zH,zI,zJ, k1]); rw [hKn];clear hKn Kn;simp only [QV,reduceIte,reduceCtorEq,Nat.reduceEqDiff])
     refine LoopK.mk (i + 1, _, bk) (by simp; omega) ⟨by simp; omega, hbk, hbkb, fun b id h => by obtain ⟨hm0, this⟩ := hbki b id h; refine ⟨hm0, ?_⟩; rw [hH1] at this; simpa using this⟩ ⟨rfl, rfl, rfl, rfl, ?_, rfl, rfl, trivial⟩ (by rw [hH1]; simp)
     rw [hall]; rfl
 ·have k2 : ((i : Int) < (plan.length : Int)) = False := eq_false (by omega)
  obtain rfl : i = plan.length := by omega
  rw [List.take_length]
  ((simp (maxSteps := 1000000) only [xV_ty, xV_fn, xV_bin, xV_oi, xV_oc, xV_ok, VL,VM,↓VG,reduceIte,reduceCtorEq,zA,zB,zC,zD,zE,zF,zG,zH,zI,zJ, k2]); rw [hKn];clear hKn Kn;simp only [QV,reduceIte,reduceCtorEq,Nat.reduceEqDiff])
  ((repeat refine Ws ?_);refine Wf (by first|rfl|simp only [EV,zF,reduceIte]) ?_)
  (((repeat refine Ws ?_);refine W_exit ?_); simp only [QV,reduceIte,reduceCtorEq,Nat.reduceEqDiff])
  rw [← hbe] at hres
  rw [hnf]
  ((repeat refine Ws ?_);refine W_regionE TV_ok ?_; intro Kn hKn)
  ((simp (maxSteps := 1000000) only [xV_ty, xV_fn, xV_bin, xV_oi, xV_oc, xV_ok, VL,VM,↓VG,reduceIte,reduceCtorEq,zA,zB,zC,zD,zE,zF,zG,zH,zI,zJ]); rw [hKn];clear hKn Kn;simp only [QV,reduceIte,reduceCtorEq,Nat.reduceEqDiff])
  ((repeat refine Ws ?_);refine Wf (by first|rfl|simp only [EV,zF,reduceIte]) ?_)
  (((repeat refine Ws ?_);refine W_skip ?_); simp only [QV,reduceIte,reduceCtorEq,Nat.reduceEqDiff])
  ((repeat refine Ws ?_);refine W_regionE TV_ok ?_; intro Kn hKn)
  ((simp (maxSteps := 1000000) only [xV_ty, xV_fn, xV_bin, xV_oi, xV_oc, xV_ok, VL,VM,↓VG,reduceIte,reduceCtorEq,zA,zB,zC,zD,zE,zF,zG,zH,zI,zJ]); rw [hKn];clear hKn Kn;simp only [QV,reduceIte,reduceCtorEq,Nat.reduceEqDiff])
  (repeat refine Ws ?_)
  refine W_ret ?_
  rw [hres]
  cases best with
  | none => exact ⟨.inr rfl, rfl, [stsV [], vb false], by simp [vresL, Try.f80, get_cons, E8], _, rfl, rfl⟩
  | some b =>
   obtain ⟨b, id⟩ := b
   exact ⟨.inr rfl, rfl, [.bf id 0 plan.length 2, vb true], by simp [vresL, Try.f80, get_cons, E8], _, rfl, id, rfl, hbi b id rfl⟩
end Go.Proofs.Ythcicaelnchfdaa.Vm
