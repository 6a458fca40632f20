/- A part of the proofs about the chapter of the doors; it states no condition of its own. -/
import Derived.Test.YtekhddlngbppkaaDoorB16
import Derived.Test.YtekhddlngbppkaaDoorB20
set_option linter.unusedVariables false
set_option linter.unusedSimpArgs false
open Int renaming reduceLE → zA, reduceLT → zB, reduceToNat → zC, reduceNeg → zD
open Nat renaming reduceLT → zE, reduceEqDiff → zF, reduceAdd → zG, reduceSub → zH, reduceMul → zI, reduceLeDiff → zJ
/- Ways and who can leave, on values. (Vm) -/
namespace Go.Proofs.YtekhddlngbppkaaDoor.Vm
open Go Go.Proofs
abbrev wayL (h : Ho) (cv : VV) (ticks : Nat) (closed : List Int) : List VObj := [.obj (houseC h), .obj [vi ticks], .obj [intsV closed], .obj [cv]]
abbrev waysV (n : Nat) : VV := .fn (.func 53) [] [.ptr n 0, .ptr (n + 3) 0, .ptr (n + 1) 0, .ptr (n + 2) 0]
theorem ways_v (h : Ho) (ticks : Nat) (closed : List Int) (cf : Nat) (ccaps : List VV) (M : Mem) (hr : ∀ x ∈ refsL ccaps, x < M.H.length) : VC Tryd.prog 44 [houseV h, vi ticks, intsV closed, .fn (.func cf) [] ccaps] M (fun r M' => M' = ⟨M.H ++ wayL h (.fn (.func cf) [] ccaps) ticks closed, M.lg⟩ ∧ r = waysV M.H.length) := by
 refine VC_escK T_ok (f := 44) (fn := Tryd.f44) (by kernel_rfl) rfl Tryd.ntmps44 (by rfl) (by rfl) ?_
 ((repeat refine Ws ?_);refine Wr ?_)
 simp (maxSteps := 1000000) only [VL,VM,↓VG,reduceIte,reduceCtorEq,zA,zB,zC,zD,zE,zF,zG,zH,zI,zJ]
 ((repeat refine Ws ?_);refine Wr ?_)
 simp (maxSteps := 1000000) only [VL,VM,↓VG,reduceIte,reduceCtorEq,zA,zB,zC,zD,zE,zF,zG,zH,zI,zJ]
 (repeat refine Ws ?_)
 refine W_ret ?_
 try simp only [thenQ, blockQ]
 refine ⟨.inr trivial, _, rfl, [waysV M.H.length], rfl, ⟨M.H.length, ?_, Nat.le_refl _⟩, rfl, rfl⟩
 simp [vtup, frz, frzL, refs, refsL]
noncomputable def leaveV (nH : Nat) (ds : List Do) (ticks : Nat) (closed : List Int) (come : Nat → Int) : Int := mfv (2 + (ticks + 1) * nH) (tabOfW (2 + (ticks + 1) * nH) (waysOf nH ds ticks closed come))
theorem leave_v (h : Ho) {cf : Nat} {cfn : Func} (hcf : T.fn cf = some cfn) (hkc : T.keeps cf = false) {ccaps : List VV} (hcs : ccaps.map strip1 = ccaps) {ticks : Nat} {closed : List Int} {come : Nat → Int} {PkC : List VObj → Prop} (hstab : ∀ A L, PkC A → PkC (A ++ L)) (hcome : ∀ (j : Nat) (M : Mem), j < h.holds.length → PkC M.H → VC Tryd.prog cf (vi j :: ccaps) M (fun r M' => M' = M ∧ r = vi (come j))) (hn : h.holds.length ≤ 4) (hd : h.doors.length ≤ 5) (ht : ticks ≤ 12) (hcl : closed.length ≤ 1000000) (hdo : ∀ d ∈ h.doors, DoOk h.holds.length d) (hc0 : ∀ i, i < h.holds.length → 0 ≤ come i ∧ come i ≤ 1073741824) (M : Mem) (hP : PkC M.H) (hr : ∀ x ∈ refsL ccaps, x < M.H.length) :
  VC Tryd.prog 23 [houseV h, vi ticks, intsV closed, .fn (.func cf) [] ccaps] M (fun r M' => M' = M ∧ r = vi (leaveV h.holds.length h.doors ticks closed come)) := by
 have m1 : (ticks + 1) * h.holds.length ≤ 13 * 4 := Nat.mul_le_mul (by omega) hn
 have hN : (2 : Int) + ((ticks : Int) + 1) * (h.holds.length : Int) = ((2 + (ticks + 1) * h.holds.length : Nat) : Int) := by push_cast; rfl
 have hp : ((ticks : Int) + 1) * (h.holds.length : Int) = (((ticks + 1) * h.holds.length : Nat) : Int) := by push_cast; rfl
 have k1 : -9223372036854775808 ≤ (ticks : Int) + 1 ∧ (ticks : Int) + 1 < 9223372036854775808 := by omega
 have k2 : -9223372036854775808 ≤ ((ticks : Int) + 1) * (h.holds.length : Int) ∧ ((ticks : Int) + 1) * (h.holds.length : Int) < 9223372036854775808 := by rw [hp]; omega
 have k3 : -9223372036854775808 ≤ (2 : Int) + ((ticks : Int) + 1) * (h.holds.length : Int) ∧ (2 : Int) + ((ticks : Int) + 1) * (h.holds.length : Int) < 9223372036854775808 := by rw [hN]; omega
 refine VC_own' T_ok (f := 23) (fn := Tryd.f23) (by kernel_rfl) rfl Tryd.ntmps23 (by rfl) (by rfl) ?_
 ((repeat refine Ws ?_);refine Wr ?_)
 simp (maxSteps := 1000000) only [VL,VM,↓VG,reduceIte,reduceCtorEq,zA,zB,zC,zD,zE,zF,zG,zH,zI,zJ]
 (repeat refine Ws ?_)
 refine W_drawP T_ok [] (by kernel_rfl) (by kernel_rfl) ?_
 generalize hi : mkPlan _ = infs
 cbv at hi
 subst hi
 simp (maxSteps := 1000000) only [VL,VM,↓VG,reduceIte,reduceCtorEq,zA,zB,zC,zD,zE,zF,zG,zH,zI,zJ, k1, k2, k3]
 apply call_d (f := 44) (fn := Tryd.f44) (by kernel_rfl) (by rfl)
 ·exact ways_v h ticks closed cf ccaps ⟨M.H ++ [.obj (houseC h)], M.lg⟩ (fun x hx => by have := hr x hx; rw [List.length_append]; omega)
 simp (maxSteps := 1000000) only [VL,VM,↓VG,reduceIte,reduceCtorEq,zA,zB,zC,zD,zE,zF,zG,zH,zI,zJ, k1, k2, k3]
 rw [hN]
 have hit := @ways_it h cf cfn hcf hkc ccaps hcs ticks closed come (M.H.length + 1) (M.H.length + 1 + 3) (M.H.length + 1 + 1) (M.H.length + 1 + 2) PkC hstab hcome hn hd ht hcl hdo
 apply call_d (f := 37) (fn := Tryd.f37) (by kernel_rfl) (by rfl)
 ·exact flow_v (fi := 53) (fni := Tryd.f53) (by kernel_rfl) (by rfl) (by rfl) (@hit) (fun A L q => ⟨q.1.app L, hstab A L q.2⟩) (by omega) (by omega) (waysOf_ok hdo hc0) (waysOf_len hn hd ht) _ ⟨⟨by simp only [hget]; rfl, by simp only [Nat.add_assoc, hget]; rfl, by simp only [Nat.add_assoc, hget]; rfl, by simp only [Nat.add_assoc, hget]; rfl⟩, hstab _ _ hP⟩
 simp (maxSteps := 1000000) only [VL,VM,↓VG,reduceIte,reduceCtorEq,zA,zB,zC,zD,zE,zF,zG,zH,zI,zJ, k1, k2, k3]
 ((repeat refine Ws ?_);refine Wr ?_)
 simp (maxSteps := 1000000) only [VL,VM,↓VG,reduceIte,reduceCtorEq,zA,zB,zC,zD,zE,zF,zG,zH,zI,zJ]
 (repeat refine Ws ?_)
 refine W_ret ?_
 try simp only [thenQ, blockQ]
 refine own_ret1 rfl ?_ (by rfl)
 simp only [get_cons, frz, vtup, Nat.reduceEqDiff, if_true, if_false, reduceIte]
 rfl
end Go.Proofs.YtekhddlngbppkaaDoor.Vm

/- In how many ticks people can leave, on values. (Vm) -/
namespace Go.Proofs.YtekhddlngbppkaaDoor
def clErr (n : Nat) : Option Int → List Int → Int
 | _, [] => 0
 | p, d :: ds => if inR d 0 ((n : Int) - 1) then (if p.any (fun q => decide (d ≤ q)) then 5 else clErr n (some d) ds) else 3
def closedErr (n : Nat) (l : List Int) : Int := clErr n none l
def prevOf (l : List Int) : Nat → Option Int
 | 0 => none
 | j + 1 => l[j]?
theorem clErr_drop {n : Nat} {l : List Int} {i : Nat} {d : Int} (hx : l[i]? = some d) (h : closedErr n l = clErr n (prevOf l i) (l.drop i)) : closedErr n l = if inR d 0 ((n : Int) - 1) then (if (prevOf l i).any (fun q => decide (d ≤ q)) then 5 else clErr n (prevOf l (i + 1)) (l.drop (i + 1))) else 3 := by
 obtain ⟨hlt, hd⟩ := List.getElem?_eq_some_iff.1 hx
 rw [h, List.drop_eq_getElem_cons hlt, hd, clErr, prevOf, hx]
def leaveErr (h : Ho) (who closed : List Int) : Int :=
 if houseErr h = 0 then (if who.length = h.holds.length then (if who.all (fun n => inR n 0 10000) then closedErr h.doors.length closed else 1) else 2) else houseErr h
def comeOf (who : List Int) (j : Nat) : Int := who.getD j 0
noncomputable def leaveT (h : Ho) (who closed : List Int) : Option Nat := (List.range 13).find? fun t => decide (Vm.leaveV h.holds.length h.doors t closed (comeOf who) = who.sum)
noncomputable def leaveR (h : Ho) (who closed : List Int) : Int × Int :=
 if leaveErr h who closed = 0 then (match leaveT h who closed with | some t => ((t : Int), 0) | none => (0, 12)) else (0, leaveErr h who closed)
theorem DoV.ok {n : Nat} {d : Do} (h : DoV n d) : DoOk n d := ⟨h.a0, h.a1, h.b0, h.b1, h.f0, by have := h.f1; omega⟩
theorem find_range {p : Nat → Bool} {n i : Nat} (hi : i < n) (h0 : ∀ j, j < i → p j = false) (h1 : p i = true) : (List.range n).find? p = some i := by
 rw [List.find?_range_eq_some]
 exact ⟨h1, by simpa using hi, fun j hj => by simp [h0 j hj]⟩
end Go.Proofs.YtekhddlngbppkaaDoor
namespace Go.Proofs.YtekhddlngbppkaaDoor.Vm
open Go Go.Proofs
theorem closed_v (h : Ho) (l : List Int) (M : Mem) (hl : l.length ≤ 1000000) (hd : h.doors.length ≤ 1000000) : VC Tryd.prog 22 [houseV h, intsV l] M (fun r M' => M' = M ∧ r = vi (closedErr h.doors.length l)) := by
 have k4 : -9223372036854775808 ≤ (h.doors.length : Int) - 1 ∧ (h.doors.length : Int) - 1 < 9223372036854775808 := by omega
 refine VC_own' T_ok (f := 22) (fn := Tryd.f22) (by kernel_rfl) rfl Tryd.ntmps22 (by rfl) (by rfl) ?_
 ((repeat refine Ws ?_);refine Wr ?_)
 simp (maxSteps := 1000000) only [VL,VM,↓VG,reduceIte,reduceCtorEq,zA,zB,zC,zD,zE,zF,zG,zH,zI,zJ]
 ((repeat refine Ws ?_);refine Wr ?_)
 simp (maxSteps := 1000000) only [VL,VM,↓VG,reduceIte,reduceCtorEq,zA,zB,zC,zD,zE,zF,zG,zH,zI,zJ]
 ((repeat refine Ws ?_);refine W_block ?_; (repeat refine Ws ?_)); refine W_loopS (fun i : Nat => [(0, houseV h), (1, intsV l), (2, .ptr M.H.length 0), (7, intsV l), (8, vi l.length), (9, vi i)]) (fun _ => ⟨M.H ++ [.obj (houseC h)], M.lg⟩) (fun i => l.length - i) (fun i => i ≤ l.length ∧ closedErr h.doors.length l = clErr h.doors.length (prevOf l i) (l.drop i)) 0 ⟨Nat.zero_le _, rfl⟩ ⟨rfl, rfl, rfl, rfl, rfl, rfl, trivial⟩ rfl ?_
 rintro i ⟨hi, he⟩
 have k1 : -9223372036854775808 ≤ (i : Int) + 1 ∧ (i : Int) + 1 < 9223372036854775808 := by omega
 ((repeat refine Ws ?_);refine Wr ?_)
 rcases Nat.lt_or_ge i l.length with hlt | hge
 ·have k2 : ((i : Int) < (l.length : Int)) = True := eq_true (by omega)
  have hx : l[i]? = some l[i] := List.getElem?_eq_getElem hlt
  generalize l[i] = d at hx
  have hx' := map_at (f := intP) hx
  have hst := clErr_drop hx he
  simp (maxSteps := 1000000) only [VL,VM,↓VG,reduceIte,reduceCtorEq,zA,zB,zC,zD,zE,zF,zG,zH,zI,zJ, k2]
  ((repeat refine Ws ?_);refine Wt (by first|rfl|simp only [EV,zF,reduceIte]) ?_)
  ((repeat refine Ws ?_);refine W_skip ?_)
  simp (maxSteps := 1000000) only [VL,VM,↓VG,reduceIte,reduceCtorEq,zA,zB,zC,zD,zE,zF,zG,zH,zI,zJ]
  ((repeat refine Ws ?_);refine W_block ?_)
  ((repeat refine Ws ?_);refine Wr ?_)
  simp (maxSteps := 1000000) only [VL,VM,↓VG,reduceIte,reduceCtorEq,zA,zB,zC,zD,zE,zF,zG,zH,zI,zJ, hx']
  ((repeat refine Ws ?_);refine W_block ?_)
  ((repeat refine Ws ?_);refine Wr ?_)
  simp (maxSteps := 1000000) only [VL,VM,↓VG,reduceIte,reduceCtorEq,zA,zB,zC,zD,zE,zF,zG,zH,zI,zJ, k4]
  apply call_eq (f := 21) (fn := Tryd.f21) (by kernel_rfl) (by rfl)
  ·exact in_v _ _ _ _
  cases b1 : inR d 0 ((h.doors.length : Int) - 1)
  ·rw [b1] at hst
   simp (maxSteps := 1000000) only [VL,VM,↓VG,reduceIte,reduceCtorEq,zA,zB,zC,zD,zE,zF,zG,zH,zI,zJ]
   ((repeat refine Ws ?_);refine Wt (by first|rfl|simp only [EV,zF,reduceIte]) ?_)
   ((repeat refine Ws ?_);refine Wr ?_)
   simp (maxSteps := 1000000) only [VL,VM,↓VG,reduceIte,reduceCtorEq,zA,zB,zC,zD,zE,zF,zG,zH,zI,zJ]
   (repeat refine Ws ?_)
   refine W_ret ?_
   try simp only [thenQ, blockQ]
   refine own_ret1 rfl ?_ (by rfl)
   simp only [get_cons, frz, vtup, Nat.reduceEqDiff, if_true, if_false, reduceIte]
   rw [hst]; rfl
  rw [b1, if_pos rfl] at hst
  simp (maxSteps := 1000000) only [VL,VM,↓VG,reduceIte,reduceCtorEq,zA,zB,zC,zD,zE,zF,zG,zH,zI,zJ]
  ((repeat refine Ws ?_);refine Wf (by first|rfl|simp only [EV,zF,reduceIte]) ?_)
  ((repeat refine Ws ?_);refine Wr ?_)
  rcases i with _ | j
  ·have k3 : ((0 : Int) < ((0 : Nat) : Int)) = False := eq_false (by omega)
   rw [if_neg (by simp [prevOf])] at hst
   simp (maxSteps := 1000000) only [VL,VM,↓VG,reduceIte,reduceCtorEq,zA,zB,zC,zD,zE,zF,zG,zH,zI,zJ, k3]
   ((repeat refine Ws ?_);refine Wf (by first|rfl|simp only [EV,zF,reduceIte]) ?_)
   ((repeat refine Ws ?_);refine W_skip ?_)
   simp (maxSteps := 1000000) only [VL,VM,↓VG,reduceIte,reduceCtorEq,zA,zB,zC,zD,zE,zF,zG,zH,zI,zJ]
   ((repeat refine Ws ?_);refine Wr ?_)
   simp (maxSteps := 1000000) only [VL,VM,↓VG,reduceIte,reduceCtorEq,zA,zB,zC,zD,zE,zF,zG,zH,zI,zJ, k1]
   refine LoopK.mk (0 + 1) (by omega) ⟨by omega, hst⟩ ⟨rfl, rfl, rfl, rfl, rfl, rfl, trivial⟩ rfl
  have k3 : ((0 : Int) < ((j + 1 : Nat) : Int)) = True := eq_true (by omega)
  have k5 : -9223372036854775808 ≤ (j : Int) ∧ (j : Int) < 9223372036854775808 := by omega
  have k6 : ((j + 1 : Nat) : Int) - 1 = (j : Int) := by omega
  have hy : l[j]? = some l[j] := List.getElem?_eq_getElem (by omega)
  have hp : prevOf l (j + 1) = some l[j] := by rw [prevOf, hy]
  generalize l[j] = q at hy hp
  have hy' := map_at (f := intP) hy
  rw [hp] at hst
  by_cases b2 : d ≤ q
  ·have k7 : (d ≤ q) = True := eq_true b2
   rw [if_pos (by simpa using b2)] at hst
   simp (maxSteps := 1000000) only [VL,VM,↓VG,reduceIte,reduceCtorEq,zA,zB,zC,zD,zE,zF,zG,zH,zI,zJ, k3, k5, k6, hy', k7]
   ((repeat refine Ws ?_);refine Wt (by first|rfl|simp only [EV,zF,reduceIte]) ?_)
   ((repeat refine Ws ?_);refine Wr ?_)
   simp (maxSteps := 1000000) only [VL,VM,↓VG,reduceIte,reduceCtorEq,zA,zB,zC,zD,zE,zF,zG,zH,zI,zJ]
   (repeat refine Ws ?_)
   refine W_ret ?_
   try simp only [thenQ, blockQ]
   refine own_ret1 rfl ?_ (by rfl)
   simp only [get_cons, frz, vtup, Nat.reduceEqDiff, if_true, if_false, reduceIte]
   rw [hst]
  have k7 : (d ≤ q) = False := eq_false b2
  rw [if_neg (by simpa using b2)] at hst
  simp (maxSteps := 1000000) only [VL,VM,↓VG,reduceIte,reduceCtorEq,zA,zB,zC,zD,zE,zF,zG,zH,zI,zJ, k3, k5, k6, hy', k7]
  ((repeat refine Ws ?_);refine Wf (by first|rfl|simp only [EV,zF,reduceIte]) ?_)
  ((repeat refine Ws ?_);refine W_skip ?_)
  simp (maxSteps := 1000000) only [VL,VM,↓VG,reduceIte,reduceCtorEq,zA,zB,zC,zD,zE,zF,zG,zH,zI,zJ]
  ((repeat refine Ws ?_);refine Wr ?_)
  simp (maxSteps := 1000000) only [VL,VM,↓VG,reduceIte,reduceCtorEq,zA,zB,zC,zD,zE,zF,zG,zH,zI,zJ, k1]
  refine LoopK.mk (j + 1 + 1) (by omega) ⟨by omega, hst⟩ ⟨rfl, rfl, rfl, rfl, rfl, rfl, trivial⟩ rfl
 have k2 : ((i : Int) < (l.length : Int)) = False := eq_false (by omega)
 obtain rfl : i = l.length := by omega
 rw [List.drop_length, clErr] at he
 simp (maxSteps := 1000000) only [VL,VM,↓VG,reduceIte,reduceCtorEq,zA,zB,zC,zD,zE,zF,zG,zH,zI,zJ, k2]
 ((repeat refine Ws ?_);refine Wf (by first|rfl|simp only [EV,zF,reduceIte]) ?_)
 ((repeat refine Ws ?_);refine W_exit ?_)
 simp (maxSteps := 1000000) only [VL,VM,↓VG,reduceIte,reduceCtorEq,zA,zB,zC,zD,zE,zF,zG,zH,zI,zJ]
 ((repeat refine Ws ?_);refine Wr ?_)
 simp (maxSteps := 1000000) only [VL,VM,↓VG,reduceIte,reduceCtorEq,zA,zB,zC,zD,zE,zF,zG,zH,zI,zJ]
 (repeat refine Ws ?_)
 refine W_ret ?_
 try simp only [thenQ, blockQ]
 refine own_ret1 rfl ?_ (by rfl)
 simp only [get_cons, frz, vtup, Nat.reduceEqDiff, if_true, if_false, reduceIte]
 rw [he]
theorem come_v (who : List Int) (wid : Nat) (j : Nat) (M : Mem) (hj : j < who.length) (hP : M.H[wid]? = some (.obj [intsV who])) : VC Tryd.prog 24 [vi j, .ptr wid 0] M (fun r M' => M' = M ∧ r = vi (comeOf who j)) := by
 have hx : who[j]? = some (comeOf who j) := by
  unfold comeOf
  rw [List.getD_eq_getElem?_getD, List.getElem?_eq_getElem hj]; rfl
 have hx' := map_at (f := intP) hx
 refine VC_own' T_ok (f := 24) (fn := Tryd.f24) (by kernel_rfl) rfl Tryd.ntmps24 (by rfl) (by rfl) ?_
 ((repeat refine Ws ?_);refine Wr ?_)
 simp (maxSteps := 1000000) only [VL,VM,↓VG,reduceIte,reduceCtorEq,zA,zB,zC,zD,zE,zF,zG,zH,zI,zJ]
 ((repeat refine Ws ?_);refine Wr ?_)
 simp (maxSteps := 1000000) only [VL,VM,↓VG,reduceIte,reduceCtorEq,zA,zB,zC,zD,zE,zF,zG,zH,zI,zJ, hP, hx']
 (repeat refine Ws ?_)
 refine W_ret ?_
 try simp only [thenQ, blockQ]
 refine own_ret10 rfl ?_ (by rfl)
 simp only [get_cons, frz, vtup, Nat.reduceEqDiff, if_true, if_false, reduceIte]
theorem get_app {α : Type} {A L : List α} {i : Nat} {o : α} (h : A[i]? = some o) : (A ++ L)[i]? = some o := by
 have hl : i < A.length := by
  rcases Nat.lt_or_ge i A.length with q | q
  ·exact q
  ·rw [List.getElem?_eq_none q] at h; cases h
 rw [List.getElem?_append_left hl]; exact h
theorem own_ret2 {T : Tab} {f : Nat} {fn : Func} {M : Mem} {L : List VObj} {e : Env} {s t : Nat} {a b x y : Int} (h1 : fn.results.toList = [.tmp s, .tmp t]) (ha : get e s = vi a) (hb : get e t = vi b) (ea : a = x) (eb : b = y) : ownQ T f fn M (fun r M' => M' = M ∧ r = .tup [vi x, vi y]) .ret e ⟨M.H ++ L, M.lg⟩ [] := by
 subst ea eb
 refine own_ret (vs := [vi a, vi b]) (r := .tup [vi a, vi b]) (by rw [h1]; simp [vresL, ha, hb]) ?_ (by simp [refs, refsL]) ⟨rfl, rfl⟩
 simp [vtup, frz, frzL]
set_option maxHeartbeats 1000000 in
set_option maxRecDepth 8000 in
theorem Leave_v (h : Ho) (who closed : List Int) (M : Mem) (hl : h.holds.length ≤ 1000000) (hld : h.doors.length ≤ 1000000) (hlc : h.counts.length ≤ 1000000) (hw : who.length ≤ 1000000) (hc : closed.length ≤ 1000000) : VC Tryd.prog 9 [houseV h, intsV who, intsV closed] M (fun r M' => M' = M ∧ r = .tup [vi (leaveR h who closed).1, vi (leaveR h who closed).2]) := by
 have e0 : leaveErr h who closed = leaveErr h who closed := rfl
 conv at e0 => rhs; unfold leaveErr
 refine VC_own' T_ok (f := 9) (fn := Tryd.f9) (by kernel_rfl) rfl Tryd.ntmps9 (by rfl) (by rfl) ?_
 ((repeat refine Ws ?_);refine Wr ?_)
 simp (maxSteps := 1000000) only [VL,VM,↓VG,reduceIte,reduceCtorEq,zA,zB,zC,zD,zE,zF,zG,zH,zI,zJ]
 ((repeat refine Ws ?_);refine Wr ?_)
 simp (maxSteps := 1000000) only [VL,VM,↓VG,reduceIte,reduceCtorEq,zA,zB,zC,zD,zE,zF,zG,zH,zI,zJ]
 apply call_eq (f := 8) (fn := Tryd.f8) (by kernel_rfl) (by rfl)
 ·exact check_v h _ hl hld hlc
 simp (maxSteps := 1000000) only [VL,VM,↓VG,reduceIte,reduceCtorEq,zA,zB,zC,zD,zE,zF,zG,zH,zI,zJ]
 ((repeat refine Ws ?_);refine Wr ?_)
 by_cases a1 : houseErr h = 0
 rotate_left
 ·rw [if_neg a1] at e0
  simp (maxSteps := 1000000) only [VL,VM,↓VG,reduceIte,reduceCtorEq,zA,zB,zC,zD,zE,zF,zG,zH,zI,zJ, a1]
  ((repeat refine Ws ?_);refine Wt (by first|rfl|simp only [EV,zF,reduceIte]) ?_)
  ((repeat refine Ws ?_);refine Wr ?_)
  simp (maxSteps := 1000000) only [VL,VM,↓VG,reduceIte,reduceCtorEq,zA,zB,zC,zD,zE,zF,zG,zH,zI,zJ]
  (repeat refine Ws ?_)
  refine W_ret ?_
  try simp only [thenQ, blockQ]
  refine own_ret2 rfl rfl rfl ?_ ?_
  ·unfold leaveR; rw [e0, if_neg a1]
  ·unfold leaveR; rw [e0, if_neg a1]
 rw [if_pos a1] at e0
 simp (maxSteps := 1000000) only [VL,VM,↓VG,reduceIte,reduceCtorEq,zA,zB,zC,zD,zE,zF,zG,zH,zI,zJ, a1]
 ((repeat refine Ws ?_);refine Wf (by first|rfl|simp only [EV,zF,reduceIte]) ?_)
 ((repeat refine Ws ?_);refine W_skip ?_)
 simp (maxSteps := 1000000) only [VL,VM,↓VG,reduceIte,reduceCtorEq,zA,zB,zC,zD,zE,zF,zG,zH,zI,zJ]
 ((repeat refine Ws ?_);refine W_block ?_)
 ((repeat refine Ws ?_);refine Wr ?_)
 by_cases a2 : who.length = h.holds.length
 rotate_left
 ·have k : ((who.length : Int) = (h.holds.length : Int)) = False := eq_false (by omega)
  rw [if_neg a2] at e0
  simp (maxSteps := 1000000) only [VL,VM,↓VG,reduceIte,reduceCtorEq,zA,zB,zC,zD,zE,zF,zG,zH,zI,zJ, k]
  ((repeat refine Ws ?_);refine Wt (by first|rfl|simp only [EV,zF,reduceIte]) ?_)
  ((repeat refine Ws ?_);refine Wr ?_)
  simp (maxSteps := 1000000) only [VL,VM,↓VG,reduceIte,reduceCtorEq,zA,zB,zC,zD,zE,zF,zG,zH,zI,zJ]
  (repeat refine Ws ?_)
  refine W_ret ?_
  try simp only [thenQ, blockQ]
  refine own_ret2 rfl rfl rfl ?_ ?_
  ·unfold leaveR; rw [e0]; rfl
  ·unfold leaveR; rw [e0]; rfl
 have k : ((who.length : Int) = (h.holds.length : Int)) = True := eq_true (by omega)
 rw [if_pos a2] at e0
 simp (maxSteps := 1000000) only [VL,VM,↓VG,reduceIte,reduceCtorEq,zA,zB,zC,zD,zE,zF,zG,zH,zI,zJ, k]
 ((repeat refine Ws ?_);refine Wf (by first|rfl|simp only [EV,zF,reduceIte]) ?_)
 ((repeat refine Ws ?_);refine Wr ?_)
 simp (maxSteps := 1000000) only [VL,VM,↓VG,reduceIte,reduceCtorEq,zA,zB,zC,zD,zE,zF,zG,zH,zI,zJ]
 apply call_eq (f := 18) (fn := Tryd.f18) (by kernel_rfl) (by rfl)
 ·exact people_v who _ hw
 cases a3 : who.all fun n => inR n 0 10000
 ·rw [a3] at e0
  simp (maxSteps := 1000000) only [VL,VM,↓VG,reduceIte,reduceCtorEq,zA,zB,zC,zD,zE,zF,zG,zH,zI,zJ]
  ((repeat refine Ws ?_);refine Wt (by first|rfl|simp only [EV,zF,reduceIte]) ?_)
  ((repeat refine Ws ?_);refine Wr ?_)
  simp (maxSteps := 1000000) only [VL,VM,↓VG,reduceIte,reduceCtorEq,zA,zB,zC,zD,zE,zF,zG,zH,zI,zJ]
  (repeat refine Ws ?_)
  refine W_ret ?_
  try simp only [thenQ, blockQ]
  refine own_ret2 rfl rfl rfl ?_ ?_
  ·unfold leaveR; rw [e0]; rfl
  ·unfold leaveR; rw [e0]; rfl
 rw [a3, if_pos rfl] at e0
 simp (maxSteps := 1000000) only [VL,VM,↓VG,reduceIte,reduceCtorEq,zA,zB,zC,zD,zE,zF,zG,zH,zI,zJ]
 ((repeat refine Ws ?_);refine Wf (by first|rfl|simp only [EV,zF,reduceIte]) ?_)
 ((repeat refine Ws ?_);refine W_skip ?_)
 simp (maxSteps := 1000000) only [VL,VM,↓VG,reduceIte,reduceCtorEq,zA,zB,zC,zD,zE,zF,zG,zH,zI,zJ]
 ((repeat refine Ws ?_);refine Wr ?_)
 simp (maxSteps := 1000000) only [VL,VM,↓VG,reduceIte,reduceCtorEq,zA,zB,zC,zD,zE,zF,zG,zH,zI,zJ]
 apply call_eq (f := 22) (fn := Tryd.f22) (by kernel_rfl) (by rfl)
 ·exact closed_v h closed _ hc hld
 simp (maxSteps := 1000000) only [VL,VM,↓VG,reduceIte,reduceCtorEq,zA,zB,zC,zD,zE,zF,zG,zH,zI,zJ]
 ((repeat refine Ws ?_);refine Wr ?_)
 by_cases a4 : closedErr h.doors.length closed = 0
 rotate_left
 ·simp (maxSteps := 1000000) only [VL,VM,↓VG,reduceIte,reduceCtorEq,zA,zB,zC,zD,zE,zF,zG,zH,zI,zJ, a4]
  ((repeat refine Ws ?_);refine Wt (by first|rfl|simp only [EV,zF,reduceIte]) ?_)
  ((repeat refine Ws ?_);refine Wr ?_)
  simp (maxSteps := 1000000) only [VL,VM,↓VG,reduceIte,reduceCtorEq,zA,zB,zC,zD,zE,zF,zG,zH,zI,zJ]
  (repeat refine Ws ?_)
  refine W_ret ?_
  try simp only [thenQ, blockQ]
  refine own_ret2 rfl rfl rfl ?_ ?_
  ·unfold leaveR; rw [e0, if_neg a4]
  ·unfold leaveR; rw [e0, if_neg a4]
 rw [a4] at e0
 have eR : leaveR h who closed = (match leaveT h who closed with | some t => ((t : Int), 0) | none => (0, 12)) := by unfold leaveR; rw [if_pos e0]
 simp (maxSteps := 1000000) only [VL,VM,↓VG,reduceIte,reduceCtorEq,zA,zB,zC,zD,zE,zF,zG,zH,zI,zJ, a4]
 ((repeat refine Ws ?_);refine Wf (by first|rfl|simp only [EV,zF,reduceIte]) ?_)
 ((repeat refine Ws ?_);refine W_skip ?_)
 simp (maxSteps := 1000000) only [VL,VM,↓VG,reduceIte,reduceCtorEq,zA,zB,zC,zD,zE,zF,zG,zH,zI,zJ]
 ((repeat refine Ws ?_);refine Wr ?_)
 simp (maxSteps := 1000000) only [VL,VM,↓VG,reduceIte,reduceCtorEq,zA,zB,zC,zD,zE,zF,zG,zH,zI,zJ]
 ((repeat refine Ws ?_);refine Wr ?_)
 simp (maxSteps := 1000000) only [VL,VM,↓VG,reduceIte,reduceCtorEq,zA,zB,zC,zD,zE,zF,zG,zH,zI,zJ]
 have hwp : ∀ n ∈ who, 0 ≤ n ∧ n ≤ 10000 := fun n hn => inR_true.1 (List.all_eq_true.1 a3 n hn)
 ((repeat refine Ws ?_);refine W_block ?_; (repeat refine Ws ?_)); refine W_loopS (fun i : Nat => [(0, houseV h), (1, intsV who), (2, intsV closed), (3, .ptr M.H.length 0), (4, .ptr (M.H.length + 1) 0), (10, vi (who.take i).sum), (36, intsV who), (37, vi who.length), (38, vi i)]) (fun _ => ⟨M.H ++ [.obj (houseC h), .obj [intsV who]], M.lg⟩) (fun i => who.length - i) (fun i => i ≤ who.length ∧ 0 ≤ (who.take i).sum ∧ (who.take i).sum ≤ 10000 * i) 0 ⟨Nat.zero_le _, by simp, by simp⟩ ⟨rfl, rfl, rfl, rfl, rfl, rfl, rfl, rfl, rfl, trivial⟩ rfl ?_
 rintro i ⟨hi, hs0, hs1⟩
 have k1 : -9223372036854775808 ≤ (i : Int) + 1 ∧ (i : Int) + 1 < 9223372036854775808 := by omega
 ((repeat refine Ws ?_);refine Wr ?_)
 rcases Nat.lt_or_ge i who.length with hlt | hge
 ·have k2 : ((i : Int) < (who.length : Int)) = True := eq_true (by omega)
  have hx : who[i]? = some who[i] := List.getElem?_eq_getElem hlt
  have hm := hwp _ (List.getElem_mem hlt)
  generalize who[i] = d at hx hm
  have hx' := map_at (f := intP) hx
  have hsum : (who.take (i + 1)).sum = (who.take i).sum + d := by rw [List.take_add_one, hx]; simp
  have k3 : -9223372036854775808 ≤ (who.take i).sum + d ∧ (who.take i).sum + d < 9223372036854775808 := by omega
  simp (maxSteps := 1000000) only [VL,VM,↓VG,reduceIte,reduceCtorEq,zA,zB,zC,zD,zE,zF,zG,zH,zI,zJ, k2]
  ((repeat refine Ws ?_);refine Wt (by first|rfl|simp only [EV,zF,reduceIte]) ?_)
  ((repeat refine Ws ?_);refine W_skip ?_)
  simp (maxSteps := 1000000) only [VL,VM,↓VG,reduceIte,reduceCtorEq,zA,zB,zC,zD,zE,zF,zG,zH,zI,zJ]
  ((repeat refine Ws ?_);refine W_block ?_)
  ((repeat refine Ws ?_);refine Wr ?_)
  simp (maxSteps := 1000000) only [VL,VM,↓VG,reduceIte,reduceCtorEq,zA,zB,zC,zD,zE,zF,zG,zH,zI,zJ, hx']
  ((repeat refine Ws ?_);refine Wr ?_)
  simp (maxSteps := 1000000) only [VL,VM,↓VG,reduceIte,reduceCtorEq,zA,zB,zC,zD,zE,zF,zG,zH,zI,zJ, k3]
  ((repeat refine Ws ?_);refine Wr ?_)
  simp (maxSteps := 1000000) only [VL,VM,↓VG,reduceIte,reduceCtorEq,zA,zB,zC,zD,zE,zF,zG,zH,zI,zJ, k1]
  refine LoopK.mk (i + 1) (by omega) ⟨by omega, by omega, by omega⟩ ⟨rfl, rfl, rfl, rfl, rfl, ?_, rfl, rfl, rfl, trivial⟩ rfl
  rw [hsum]; rfl
 have k2 : ((i : Int) < (who.length : Int)) = False := eq_false (by omega)
 obtain rfl : i = who.length := by omega
 rw [List.take_length] at hs0 hs1
 simp (maxSteps := 1000000) only [VL,VM,↓VG,reduceIte,reduceCtorEq,zA,zB,zC,zD,zE,zF,zG,zH,zI,zJ, k2, List.take_length]
 ((repeat refine Ws ?_);refine Wf (by first|rfl|simp only [EV,zF,reduceIte]) ?_)
 ((repeat refine Ws ?_);refine W_exit ?_)
 simp (maxSteps := 1000000) only [VL,VM,↓VG,reduceIte,reduceCtorEq,zA,zB,zC,zD,zE,zF,zG,zH,zI,zJ]
 ((repeat refine Ws ?_);refine Wr ?_)
 simp (maxSteps := 1000000) only [VL,VM,↓VG,reduceIte,reduceCtorEq,zA,zB,zC,zD,zE,zF,zG,zH,zI,zJ]
 have HV := houseErr_ok.1 a1
 have hcm : ∀ j, j < h.holds.length → 0 ≤ comeOf who j ∧ comeOf who j ≤ 1073741824 := fun j hj => by
  unfold comeOf
  rw [List.getD_eq_getElem?_getD, List.getElem?_eq_getElem (by omega), Option.getD_some]
  have := hwp _ (List.getElem_mem (l := who) (n := j) (by omega))
  omega
 clear k1 k2 hge
 ((repeat refine Ws ?_);refine W_block ?_; (repeat refine Ws ?_)); refine W_loopS (fun i : Nat => [(0, houseV h), (1, intsV who), (2, intsV closed), (3, .ptr M.H.length 0), (4, .ptr (M.H.length + 1) 0), (10, vi who.sum), (46, vi i)]) (fun _ => ⟨M.H ++ [.obj (houseC h), .obj [intsV who]], M.lg⟩) (fun i => 13 - i) (fun i => i ≤ 13 ∧ ∀ j, j < i → leaveV h.holds.length h.doors j closed (comeOf who) ≠ who.sum) 0 ⟨Nat.zero_le _, fun j hj => absurd hj (Nat.not_lt_zero j)⟩ ⟨rfl, rfl, rfl, rfl, rfl, rfl, rfl, trivial⟩ rfl ?_
 rintro i ⟨hi2, hno⟩
 have k1 : -9223372036854775808 ≤ (i : Int) + 1 ∧ (i : Int) + 1 < 9223372036854775808 := by omega
 ((repeat refine Ws ?_);refine Wr ?_)
 rcases Nat.lt_or_ge i 13 with hlt | hge
 ·have k2 : ((i : Int) < 13) = True := eq_true (by omega)
  simp (maxSteps := 1000000) only [VL,VM,↓VG,reduceIte,reduceCtorEq,zA,zB,zC,zD,zE,zF,zG,zH,zI,zJ, k2]
  ((repeat refine Ws ?_);refine Wt (by first|rfl|simp only [EV,zF,reduceIte]) ?_)
  ((repeat refine Ws ?_);refine W_skip ?_)
  simp (maxSteps := 1000000) only [VL,VM,↓VG,reduceIte,reduceCtorEq,zA,zB,zC,zD,zE,zF,zG,zH,zI,zJ]
  ((repeat refine Ws ?_);refine W_block ?_)
  ((repeat refine Ws ?_);refine Wr ?_)
  simp (maxSteps := 1000000) only [VL,VM,↓VG,reduceIte,reduceCtorEq,zA,zB,zC,zD,zE,zF,zG,zH,zI,zJ]
  ((repeat refine Ws ?_);refine Wr ?_)
  simp (maxSteps := 1000000) only [VL,VM,↓VG,reduceIte,reduceCtorEq,zA,zB,zC,zD,zE,zF,zG,zH,zI,zJ]
  refine callf_u (f := 23) (fn := Tryd.f23) (caps := []) (by kernel_rfl) (by rfl) (by exact leave_v h (cf := 24) (cfn := Tryd.f24) (by kernel_rfl) (by rfl) (ccaps := [.ptr (M.H.length + 1) 0]) rfl (ticks := i) (closed := closed) (come := comeOf who) (PkC := fun A => A[M.H.length + 1]? = some (.obj [intsV who])) (fun A L q => get_app q) (fun j M' hj hP => come_v who _ j M' (by omega) hP) HV.n1 HV.d1 (by omega) hc (fun d hd => (HV.doors d hd).ok) hcm _ (by simp only [hget]; rfl) (by intro x hx; simp [refsL, refs] at hx; rw [List.length_append]; subst hx; simp)) ?_
  by_cases b : leaveV h.holds.length h.doors i closed (comeOf who) = who.sum
  ·have k3 : (leaveV h.holds.length h.doors i closed (comeOf who) = who.sum) = True := eq_true b
   simp (maxSteps := 1000000) only [VL,VM,↓VG,reduceIte,reduceCtorEq,zA,zB,zC,zD,zE,zF,zG,zH,zI,zJ, k3]
   ((repeat refine Ws ?_);refine Wt (by first|rfl|simp only [EV,zF,reduceIte]) ?_)
   ((repeat refine Ws ?_);refine Wr ?_)
   simp (maxSteps := 1000000) only [VL,VM,↓VG,reduceIte,reduceCtorEq,zA,zB,zC,zD,zE,zF,zG,zH,zI,zJ]
   have hT : leaveT h who closed = some i := find_range hlt (fun j hj => decide_eq_false (hno j hj)) (decide_eq_true b)
   (repeat refine Ws ?_)
   refine W_ret ?_
   try simp only [thenQ, blockQ]
   refine own_ret2 rfl rfl rfl ?_ ?_
   ·rw [eR, hT]
   ·rw [eR, hT]
  have k3 : (leaveV h.holds.length h.doors i closed (comeOf who) = who.sum) = False := eq_false b
  simp (maxSteps := 1000000) only [VL,VM,↓VG,reduceIte,reduceCtorEq,zA,zB,zC,zD,zE,zF,zG,zH,zI,zJ, k3]
  ((repeat refine Ws ?_);refine Wf (by first|rfl|simp only [EV,zF,reduceIte]) ?_)
  ((repeat refine Ws ?_);refine W_skip ?_)
  simp (maxSteps := 1000000) only [VL,VM,↓VG,reduceIte,reduceCtorEq,zA,zB,zC,zD,zE,zF,zG,zH,zI,zJ]
  ((repeat refine Ws ?_);refine Wr ?_)
  simp (maxSteps := 1000000) only [VL,VM,↓VG,reduceIte,reduceCtorEq,zA,zB,zC,zD,zE,zF,zG,zH,zI,zJ, k1]
  refine LoopK.mk (i + 1) (by omega) ⟨by omega, fun j hj => ?_⟩ ⟨rfl, rfl, rfl, rfl, rfl, rfl, rfl, trivial⟩ rfl
  rcases Nat.lt_succ_iff_lt_or_eq.1 hj with q | rfl
  ·exact hno j q
  ·exact b
 have k2 : ((i : Int) < 13) = False := eq_false (by omega)
 simp (maxSteps := 1000000) only [VL,VM,↓VG,reduceIte,reduceCtorEq,zA,zB,zC,zD,zE,zF,zG,zH,zI,zJ, k2]
 ((repeat refine Ws ?_);refine Wf (by first|rfl|simp only [EV,zF,reduceIte]) ?_)
 ((repeat refine Ws ?_);refine W_exit ?_)
 simp (maxSteps := 1000000) only [VL,VM,↓VG,reduceIte,reduceCtorEq,zA,zB,zC,zD,zE,zF,zG,zH,zI,zJ]
 ((repeat refine Ws ?_);refine Wr ?_)
 simp (maxSteps := 1000000) only [VL,VM,↓VG,reduceIte,reduceCtorEq,zA,zB,zC,zD,zE,zF,zG,zH,zI,zJ]
 have hT : leaveT h who closed = none := by
  unfold leaveT
  rw [List.find?_eq_none]
  intro j hj
  rw [List.mem_range] at hj
  simpa using hno j (by omega)
 (repeat refine Ws ?_)
 refine W_ret ?_
 try simp only [thenQ, blockQ]
 refine own_ret2 rfl rfl rfl ?_ ?_
 ·rw [eR, hT]
 ·rw [eR, hT]
end Go.Proofs.YtekhddlngbppkaaDoor.Vm
