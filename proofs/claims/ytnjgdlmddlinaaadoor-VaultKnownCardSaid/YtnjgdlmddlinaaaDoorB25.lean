/- A part of the proofs about the chapter of the vaults; it states no condition of its own. -/
import Derived.Test.YtnjgdlmddlinaaaDoorB13
import Derived.Test.YtnjgdlmddlinaaaDoorB15
import Derived.Test.YtnjgdlmddlinaaaDoorB21
import Derived.Test.YtnjgdlmddlinaaaDoorB22
import Derived.Test.YtnjgdlmddlinaaaDoorB24
import Derived.Shelf.Strings.BuilderK
import Derived.Shelf.LaysM
import Derived.Shelf.Strconv.Itoa3
import Derived.Test.YtnjgdlmddlinaaaDoorProg
set_option linter.unusedVariables false
set_option linter.unusedSimpArgs false
open Int renaming reduceLE → zA, reduceLT → zB, reduceToNat → zC, reduceNeg → zD
open Nat renaming reduceLT → zE, reduceEqDiff → zF, reduceAdd → zG, reduceSub → zH, reduceMul → zI, reduceLeDiff → zJ
/- Where one more stall may be, on values. (Vm) -/
namespace Go.Proofs.YtnjgdlmddlinaaaDoor.Vm
open Go Go.Proofs
def roomErr (h : Ha) (l : List Pu) (k : Int) : Int := if layoutErr h l ≠ 0 then layoutErr h l else if isKind h k then 0 else 8
def roomL (h : Ha) (l : List Pu) (k : Int) : List Pl := (placesL h).filter fun c => allowedB h (l ++ [⟨c, k⟩])
def roomR (h : Ha) (l : List Pu) (k : Int) : VV := if roomErr h l k = 0 then plsV (roomL h l k) else .p (.sl 0 [])
theorem filter_take_succ {α : Type} (p : α → Bool) {l : List α} {i : Nat} {c : α} (h : l[i]? = some c) : (l.take (i + 1)).filter p = (l.take i).filter p ++ if p c then [c] else [] := by
 rw [List.take_add_one, h, List.filter_append]
 cases hp : p c <;> simp [hp]
set_option maxRecDepth 100000 in
set_option maxHeartbeats 1000000 in
theorem room_vm (h : Ha) (l : List Pu) (kind : Int) (M : Mem) (F : Fin h) (hl : l.length ≤ 1000000) : VC Tryd.prog 12 [hallV h, pusV l, vi kind] M (fun r M' => M' = M ∧ r = .tup [roomR h l kind, vi (roomErr h l kind)]) := by
 refine VC_ownK T_ok (f := 12) (fn := Tryd.f12) (by kernel_rfl) rfl Tryd.ntmps12 (by rfl) (by rfl) ?_
 ((repeat refine Ws ?_);refine Wr ?_)
 simp (maxSteps := 1000000) only [VL,VM,↓VG,reduceIte,reduceCtorEq,zA,zB,zC,zD,zE,zF,zG,zH,zI,zJ]
 ((repeat refine Ws ?_);refine Wr ?_)
 simp (maxSteps := 1000000) only [VL,VM,↓VG,reduceIte,reduceCtorEq,zA,zB,zC,zD,zE,zF,zG,zH,zI,zJ]
 apply call_eq (f := 7) (fn := Tryd.f7) (by kernel_rfl) (by rfl)
 ·exact checkLayout_vm h l _ F hl
 simp (maxSteps := 1000000) only [VL,VM,↓VG,reduceIte,reduceCtorEq,zA,zB,zC,zD,zE,zF,zG,zH,zI,zJ]
 ((repeat refine Ws ?_);refine Wr ?_)
 by_cases e : layoutErr h l = 0
 rotate_left
 ·simp (maxSteps := 1000000) only [VL,VM,↓VG,reduceIte,reduceCtorEq,zA,zB,zC,zD,zE,zF,zG,zH,zI,zJ, e]
  ((repeat refine Ws ?_);refine Wt (by first|rfl|simp only [EV,zF,reduceIte]) ?_)
  ((repeat refine Ws ?_);refine Wr ?_)
  simp (maxSteps := 1000000) only [VL,VM,↓VG,reduceIte,reduceCtorEq,zA,zB,zC,zD,zE,zF,zG,zH,zI,zJ]
  (repeat refine Ws ?_)
  refine W_ret ?_
  try simp only [thenQ, blockQ]
  refine ownK_ret0 rfl ?_ ?_
  ·exact ⟨rfl, by simp [get_cons, frz, frzL, vtup, roomR, roomErr, e]⟩
  ·simp [get_cons, frz, frzL, vtup, refs, refsL]
 have hL := (layout_ok.1 e).2
 have V := VH.of (layout_ok.1 e).1
 have hlen := lay_len hL
 have hk6 := V.kinds6
 have k1 : -9223372036854775808 ≤ (h.kinds.length : Int) - 1 ∧ (h.kinds.length : Int) - 1 < 9223372036854775808 := by omega
 simp (maxSteps := 1000000) only [VL,VM,↓VG,reduceIte,reduceCtorEq,zA,zB,zC,zD,zE,zF,zG,zH,zI,zJ, e]
 ((repeat refine Ws ?_);refine Wf (by first|rfl|simp only [EV,zF,reduceIte]) ?_)
 ((repeat refine Ws ?_);refine W_skip ?_)
 simp (maxSteps := 1000000) only [VL,VM,↓VG,reduceIte,reduceCtorEq,zA,zB,zC,zD,zE,zF,zG,zH,zI,zJ]
 ((repeat refine Ws ?_);refine Wr ?_)
 simp (maxSteps := 1000000) only [VL,VM,↓VG,reduceIte,reduceCtorEq,zA,zB,zC,zD,zE,zF,zG,zH,zI,zJ, k1]
 apply call_eq (f := 20) (fn := Tryd.f20) (by kernel_rfl) (by rfl)
 ·exact in_vm _ _ _ _
 simp (maxSteps := 1000000) only [VL,VM,↓VG,reduceIte,reduceCtorEq,zA,zB,zC,zD,zE,zF,zG,zH,zI,zJ]
 rw [show inR kind 0 ((h.kinds.length : Int) - 1) = isKind h kind from rfl]
 cases hkd : isKind h kind
 ·((repeat refine Ws ?_);refine Wt (by first|rfl|simp only [EV,zF,reduceIte]) ?_)
  ((repeat refine Ws ?_);refine Wr ?_)
  simp (maxSteps := 1000000) only [VL,VM,↓VG,reduceIte,reduceCtorEq,zA,zB,zC,zD,zE,zF,zG,zH,zI,zJ]
  (repeat refine Ws ?_)
  refine W_ret ?_
  try simp only [thenQ, blockQ]
  refine ownK_ret0 rfl ?_ ?_
  ·exact ⟨rfl, by simp [get_cons, frz, frzL, vtup, roomR, roomErr, e, hkd]⟩
  ·simp [get_cons, frz, frzL, vtup, refs, refsL]
 ((repeat refine Ws ?_);refine Wf (by first|rfl|simp only [EV,zF,reduceIte]) ?_)
 ((repeat refine Ws ?_);refine W_skip ?_)
 simp (maxSteps := 1000000) only [VL,VM,↓VG,reduceIte,reduceCtorEq,zA,zB,zC,zD,zE,zF,zG,zH,zI,zJ]
 ((repeat refine Ws ?_);refine Wr ?_)
 simp (maxSteps := 1000000) only [VL,VM,↓VG,reduceIte,reduceCtorEq,zA,zB,zC,zD,zE,zF,zG,zH,zI,zJ]
 (repeat refine Ws ?_)
 refine W_ghost (id := M.H.length + 3) (off := 0) (k := 2) (k0 := 0) (cs := [.sf 0 []]) (by rw [hget]; rfl) rfl ?_
 ((repeat refine Ws ?_);refine Wr ?_)
 simp (maxSteps := 1000000) only [VL,VM,↓VG,reduceIte,reduceCtorEq,zA,zB,zC,zD,zE,zF,zG,zH,zI,zJ]
 apply call_eq (f := 28) (fn := Tryd.f28) (by kernel_rfl) (by rfl)
 ·exact placesF_v h _
 obtain ⟨wd, hwd⟩ := Int.eq_ofNat_of_zero_le (show 0 ≤ h.wide by have := V.w1; omega)
 obtain ⟨dp, hdp⟩ := Int.eq_ofNat_of_zero_le (show 0 ≤ h.deep by have := V.d1; omega)
 have w2 := V.w2
 have d2 := V.d2
 have w6 : wd ≤ 6 := by omega
 have d4 : dp ≤ 4 := by omega
 have hrows : placesL h = rowsOf dp wd := by rw [placesL, hwd, hdp]; rfl
 have q1 : ((l.length + 1) * 24 ≤ 140737488355328) = True := eq_true (by omega)
 simp (maxSteps := 1000000) only [VL,VM,↓VG,reduceIte,reduceCtorEq,zA,zB,zC,zD,zE,zF,zG,zH,zI,zJ]
 ((repeat refine Ws ?_);refine W_block ?_)
 refine W_places rfl rfl h hwd hdp (by omega) (by omega) [(3, VV.ptr M.H.length 0), (4, VV.ptr (M.H.length + 1) 0), (5, VV.ptr (M.H.length + 2) 0), (9, VV.ptr (M.H.length + 3) 0)] (fun s : List Pl => M.H ++ [.obj (hallC h), .obj [pusV l], .obj [vi kind], .obj [.so (M.H.length + 4) 2 (s.map plP)], .clm s.length 2, .obj (hallC h)]) (fun i s => s = ((rowsOf dp wd).take i).filter fun c => allowedB h (l ++ [⟨c, kind⟩])) [] rfl (fun s => by simp) (by simp) (fun s => by rw [hget]; rfl) (by rfl) ⟨rfl, rfl, rfl, rfl, trivial⟩ (by kernel_rfl) ?_ ?_
 ·intro o o' i c s junk hc hs
  dsimp only
  ((repeat refine Ws ?_);refine Wr ?_)
  simp (maxSteps := 1000000) only [VL,VM,↓VG,reduceIte,reduceCtorEq,zA,zB,zC,zD,zE,zF,zG,zH,zI,zJ]
  refine ⟨junk ++ [.obj [vi c.x, vi c.y]], by simp, ?_⟩
  ((repeat refine Ws ?_);refine W_block ?_)
  (repeat refine Ws ?_)
  refine W_drawP T_ok [] (by kernel_rfl) (by kernel_rfl) ?_
  generalize hi : mkPlan _ = infs
  cbv at hi
  subst hi
  simp (maxSteps := 1000000) only [VL,VM,↓VG,reduceIte,reduceCtorEq,zA,zB,zC,zD,zE,zF,zG,zH,zI,zJ]
  apply callk_d (f := 29) (fn := Tryd.f29) (by kernel_rfl) (by rfl)
  ·exact clone_v 3 _ _ (.inl rfl) (by rw [List.length_map]; omega)
  simp (maxSteps := 1000000) only [VL,VM,↓VG,reduceIte,reduceCtorEq,zA,zB,zC,zD,zE,zF,zG,zH,zI,zJ, q1]
  generalize hl2 : l ++ [⟨c, kind⟩] = l2
  have hmap : l.map puP ++ [[PV.int .i64 c.x, .int .i64 c.y, .int .i64 kind]] = l2.map puP := by rw [← hl2]; simp
  have hl2n : l2.length = l.length + 1 := by rw [← hl2]; simp
  rw [hmap]
  have hft := filter_take_succ (fun c => allowedB h (l ++ [⟨c, kind⟩])) hc
  simp only [hl2] at hft
  rw [← hs] at hft
  have hsl : s.length ≤ 24 := by
   have h1 := List.length_filter_le (fun c => allowedB h (l ++ [⟨c, kind⟩])) ((rowsOf dp wd).take i)
   rw [← hs] at h1
   have h2 := List.length_take_le i (rowsOf dp wd)
   rw [List.length_take] at h1
   have h3 : (rowsOf dp wd).length ≤ 24 := by
    rw [rowsOf_len]
    have : dp * wd ≤ 4 * 6 := Nat.mul_le_mul d4 w6
    omega
   omega
  have q2 : ((s.length + 1) * 16 ≤ 140737488355328) = True := eq_true (by omega)
  ((repeat refine Ws ?_);refine Wr ?_)
  simp (maxSteps := 1000000) only [VL,VM,↓VG,reduceIte,reduceCtorEq,zA,zB,zC,zD,zE,zF,zG,zH,zI,zJ]
  apply call_eq (f := 26) (fn := Tryd.f26) (by kernel_rfl) (by rfl)
  ·exact checklayout_vm h l2 _ V (by omega)
  by_cases e2 : layErr h l2 = 0
  rotate_left
  ·have ea : allowedB h l2 = false := by unfold allowedB; rw [decide_eq_false e2]; rfl
   simp (maxSteps := 1000000) only [VL,VM,↓VG,reduceIte,reduceCtorEq,zA,zB,zC,zD,zE,zF,zG,zH,zI,zJ, e2]
   ((repeat refine Ws ?_);refine Wf (by first|rfl|simp only [EV,zF,reduceIte]) ?_)
   ((repeat refine Ws ?_);refine W_skip ?_)
   simp only [blockQ]
   refine ⟨trivial, s, _, rfl, ?_⟩
   rw [hft, ea]; simp
  simp (maxSteps := 1000000) only [VL,VM,↓VG,reduceIte,reduceCtorEq,zA,zB,zC,zD,zE,zF,zG,zH,zI,zJ, e2]
  apply call_eq (f := 27) (fn := Tryd.f27) (by kernel_rfl) (by rfl)
  ·exact bears_vm h l2 _ V (lay_good e2) (by omega)
  by_cases e3 : verdictOf h l2 = 1
  rotate_left
  ·have ea : allowedB h l2 = false := by unfold allowedB; rw [decide_eq_false e3]; simp
   simp (maxSteps := 1000000) only [VL,VM,↓VG,reduceIte,reduceCtorEq,zA,zB,zC,zD,zE,zF,zG,zH,zI,zJ, e3]
   ((repeat refine Ws ?_);refine Wf (by first|rfl|simp only [EV,zF,reduceIte]) ?_)
   ((repeat refine Ws ?_);refine W_skip ?_)
   simp only [blockQ]
   refine ⟨trivial, s, _, rfl, ?_⟩
   rw [hft, ea]; simp
  have ea : allowedB h l2 = true := by unfold allowedB; rw [decide_eq_true e2, decide_eq_true e3]; rfl
  simp (maxSteps := 1000000) only [VL,VM,↓VG,reduceIte,reduceCtorEq,zA,zB,zC,zD,zE,zF,zG,zH,zI,zJ, e3]
  ((repeat refine Ws ?_);refine Wt (by first|rfl|simp only [EV,zF,reduceIte]) ?_)
  ((repeat refine Ws ?_);refine Wr ?_)
  simp (maxSteps := 1000000) only [VL,VM,↓VG,reduceIte,reduceCtorEq,zA,zB,zC,zD,zE,zF,zG,zH,zI,zJ, q2]
  refine ⟨s ++ [c], junk ++ [.obj [vi c.x, vi c.y], .clm (l.length + 1) 3], ?_, by rw [hft, ea]; rfl⟩
  rw [addLg_has (by simp)]
  simp
 ·intro o s hs
  simp only [thenQ, blockQ]
  ((repeat refine Ws ?_);refine Wr ?_)
  simp (maxSteps := 1000000) only [VL,VM,↓VG,reduceIte,reduceCtorEq,zA,zB,zC,zD,zE,zF,zG,zH,zI,zJ]
  rw [List.take_of_length_le (by rw [rowsOf_len]; exact Nat.le_refl _), ← hrows] at hs
  subst hs
  (repeat refine Ws ?_)
  refine W_ret ?_
  try simp only [thenQ, blockQ]
  refine ownK_ret (L' := _) (X := [(M.H.length + 3, M.H.length + 4)]) (by simp) (vkill_one (j := 6) rfl) rfl ?_ ?_
  ·exact ⟨rfl, by simp [get_cons, frz, frzL, vtup, roomR, roomErr, e, hkd, roomL]⟩
  ·simp [get_cons, frz, frzL, vtup, refs, refsL]
end Go.Proofs.YtnjgdlmddlinaaaDoor.Vm

/- The machine on values at work: regions whose continuation is kept out of sight. -/
namespace Go.Proofs.YtnjgdlmddlinaaaDoor.Vm
open Go Go.Proofs
section
variable {P : Program} {T : Tab} {cx : Cx} {e : Env} {M : Mem} {D : List Nat} {Q : PQ}
theorem QV : type_of% (And.intro (@thenQ.eq_1) (And.intro (@thenQ.eq_2) (And.intro (@blockQ.eq_1) (@blockQ.eq_2)))) := And.intro (@thenQ.eq_1) (And.intro (@thenQ.eq_2) (And.intro (@blockQ.eq_1) (@blockQ.eq_2)))
theorem W_regionE (hT : TabOk P T) {id : Nat} {ops : Array Oper} (h : ∀ Kn : Env → Mem → Prop, (∀ e' M', Kn e' M' = Q .normal e' M' D) → WOps P T cx.nt ops ops.toList e M Kn) : WCode P cx (.region id ops false) e M D Q := W_region0 hT (h _ fun _ _ => rfl)
theorem W_drawE (hT : TabOk P T) {id : Nat} {ops : Array Oper} (zs : List VObj) (hz : zerosOf T ops.toList = some zs) (hp : planOk ops (mkPlan ops) = true)
  (h : ∀ Kn : Env → Mem → Prop, (∀ e' M', Kn e' M' = Q .normal e' M' D) → WDraw P T cx.nt ops ops.toList (mkPlan ops) e M.H.length { M with H := M.H ++ zs } [] [] Kn) : WCode P cx (.region id ops true) e M D Q := W_drawP hT zs hz hp (h _ fun _ _ => rfl)
end
end Go.Proofs.YtnjgdlmddlinaaaDoor.Vm

/- The machine on values: sets of carts. (Vm) -/
namespace Go.Proofs.YtnjgdlmddlinaaaDoor.Vm
open Go Go.Proofs
section
variable (t : Nat) (a b : Nat)
end
end Go.Proofs.YtnjgdlmddlinaaaDoor.Vm

/- A machine on values: slices of our own whose rows hold values; buffers that are frozen; calls that touch nothing of ours. -/
namespace Go.Proofs.YtnjgdlmddlinaaaDoor.Vm
open Go

theorem flat_lenV {α : Type} {ke : Nat} : ∀ {ys : List (List α)}, (∀ x ∈ ys, x.length = ke) → ys.flatten.length = ys.length * ke
 | [], _ => by simp
 | x :: ys, h => by
  rw [List.flatten_cons, List.length_append, h x (List.mem_cons_self ..), flat_lenV fun y hy => h y (List.mem_cons_of_mem _ hy), List.length_cons, Nat.succ_mul, Nat.add_comm]
theorem flat_get {α : Type} {k : Nat} : ∀ {ys : List (List α)}, (∀ x ∈ ys, x.length = k) → ∀ {i : Nat} {x : List α}, ys[i]? = some x → ∀ {j : Nat}, j < k → ys.flatten[i * k + j]? = x[j]?
 | [], _, i, x, h, j, hj => by simp at h
 | y :: ys, hk, 0, x, h, j, hj => by
  have hy := hk y (List.mem_cons_self ..)
  cases h
  rw [List.flatten_cons, Nat.zero_mul, Nat.zero_add, List.getElem?_append_left (by rw [hy]; exact hj)]
 | y :: ys, hk, i + 1, x, h, j, hj => by
  have hy := hk y (List.mem_cons_self ..)
  rw [List.flatten_cons, List.getElem?_append_right (by rw [hy, Nat.succ_mul]; omega), hy, show (i + 1) * k + j - k = i * k + j by rw [Nat.succ_mul]; omega]
  exact flat_get (fun z hz => hk z (List.mem_cons_of_mem _ hz)) h hj
section
variable {P : Program} {T : Tab} {cx : Cx} {e : Env} {M : Mem} {D : List Nat} {Q : PQ} {c : Code}
theorem W_frz1 {id n k o j : Nat} {xs : List (List PV)} {cs : List VV} (h1 : M.H[id]? = some (.obj (xs.flatten.map .p))) (h3 : M.H[o]? = some (.obj cs)) (h4 : cs[j]? = some (.bf id 0 n k)) (hk : ∀ x ∈ xs, x.length = k) (hn : xs.length = n) (hne : o ≠ id)
  (h : WCode P cx c e ⟨(M.H.set id .dead).set o (.obj (cs.set j (.p (.sl k xs)))), M.lg⟩ D Q) : WCode P cx c e M D Q := by
 intro G w K a hs
 have i1 := hs.inv
 have hil := (List.getElem?_eq_some_iff.1 h1).1
 have hol := (List.getElem?_eq_some_iff.1 h3).1
 obtain ⟨H2, hH2⟩ : ∃ H2, H2 = (M.H.set id .dead).set o (.obj (cs.set j (.p (.sl k xs)))) := ⟨_, rfl⟩
 rw [← hH2] at h
 have hl2 : H2.length = M.H.length := by rw [hH2]; simp
 have hs2 : ∀ i x, H2[i]? = some x → (i = o ∧ x = .obj (cs.set j (.p (.sl k xs)))) ∨ (i = id ∧ x = .dead) ∨ (i ≠ o ∧ i ≠ id ∧ M.H[i]? = some x) := fun i x hx => by
  rw [hH2] at hx
  rcases set_get hx with ⟨rfl, rfl, _⟩ | ⟨a1, a2⟩
  ·exact .inl ⟨rfl, rfl⟩
  ·rcases set_get a2 with ⟨rfl, rfl, _⟩ | ⟨b1, b2⟩
   ·exact .inr (.inl ⟨rfl, rfl⟩)
   ·exact .inr (.inr ⟨a1, b1, b2⟩)
 have hE : Ext w K M.H w K H2 := by
  refine ⟨Nat.le_refl _, Szp.refl _, fun b q _ him i ob hi hb => ?_, fun _ _ _ _ => rfl, fun i x hi => ?_⟩
  ·rcases hs2 i ob hi with ⟨rfl, rfl⟩ | ⟨rfl, rfl⟩ | ⟨_, _, h2⟩
   ·rcases him i _ h3 hb with e2 | ⟨m, k', e2, _⟩
    ·exact e2.elim
    ·cases e2
   ·exact .inl trivial
   ·exact him i ob h2 hb
  ·by_cases ho : i = o
   ·subst ho
    rw [h3] at hi
    cases hi
    exact ⟨_, by rw [hH2, List.getElem?_set_self (by simp; exact hol)], fun _ _ e => VObj.noConfusion e, rfl⟩
   ·by_cases hid : i = id
    ·subst hid
     rw [h1] at hi
     cases hi
     exact ⟨.dead, by rw [hH2, List.getElem?_set_ne (Ne.symm ho), List.getElem?_set_self hil], fun _ _ e => VObj.noConfusion e, rfl⟩
    ·exact ⟨x, by rw [hH2, List.getElem?_set_ne (Ne.symm ho), List.getElem?_set_ne (Ne.symm hid)]; exact hi, objLe_same rfl fun b _ => rfl⟩
 have key : ∀ v, RepV w K M.H v (.bf id 0 n k) → RepV w K H2 v (.p (.sl k xs)) := by
  intro v hv
  cases hv with
  | bf _ _ _ _ b cc A hK hnc hc hm hA hz =>
   by_cases hn0 : n = 0
   ·subst hn0
    obtain rfl := List.length_eq_zero_iff.1 hn
    exact .p _ _ (.sl A cc k 0 0 [] (fun _ _ => undef) (by simp) hm (by simp) (by simp) (by simp) (by simp) (by simp))
   obtain ⟨vs, t, q1, q2, q3⟩ := i1.obj id _ h1 _ (hK hn0)
   have hfl := flat_lenV hk
   have hcell : ∀ i x l u, xs[i]? = some x → x[l]? = some u → ∃ v, vs[i * k + l]? = some v ∧ RepP w (Im K M.H) v u := by
    intro i x l u hx hu
    have hx1 := hk x (List.mem_of_getElem? hx)
    have hi' := (List.getElem?_eq_some_iff.1 hx).1
    have hl' := (List.getElem?_eq_some_iff.1 hu).1
    have hat : xs.flatten[i * k + l]? = some u := by
     have := flat_get (k := k) hk hx (show l < k by omega)
     rw [this]; exact hu
    have hc1 : (xs.flatten.map VV.p)[i * k + l]? = some (.p u) := by rw [List.getElem?_map, hat]; rfl
    have hlt : i * k + l < vs.size := by
     have := (List.getElem?_eq_some_iff.1 hc1).1
     omega
    have hv := Array.getElem?_eq_getElem hlt
    generalize vs[i * k + l] = v at hv
    refine ⟨v, hv, ?_⟩
    obtain ⟨r1, _⟩ := q3 _ _ _ hv hc1
    cases r1 with
    | p _ _ h => exact h
   have him : ∀ q, Im K H2 b q := by
    intro q i ob hob hKi
    have hi := (List.getElem?_eq_some_iff.1 hob).1
    by_cases hgo : ob = .gone
    ·subst hgo; exact .inl trivial
    have hg1 : M.H[i]? ≠ some .gone := by
     rcases hs2 i ob hob with ⟨rfl, rfl⟩ | ⟨rfl, rfl⟩ | ⟨_, _, h2⟩
     ·rw [h3]; simp
     ·rw [h1]; simp
     ·rw [h2]; simpa using hgo
    have := i1.inj i id b (by omega) hil hg1 (by rw [h1]; simp) hKi (hK hn0)
    subst this
    rcases hs2 i ob hob with ⟨e1, _⟩ | ⟨_, rfl⟩ | ⟨_, h5, _⟩
    ·exact absurd e1.symm hne
    ·exact .inl trivial
    ·exact absurd rfl h5
   have hkey : RepV w K H2 (.slice A xs.length cc) (.p (.sl k xs)) := by
    refine .p _ _ (.sl A cc k b 0 xs (fun i l => vs.getD (i * k + l) undef) (by omega) hm hk (fun _ => hA hn0) (fun i x l u hx hu => him _) (fun i x l u hx hu => ?_) fun i x l u hx hu => ?_)
    ·obtain ⟨v, hv, _⟩ := hcell i x l u hx hu
     simp only [World.cell?, q1, Nat.zero_add]
     simp [hv]
    ·obtain ⟨v, hv, hP⟩ := hcell i x l u hx hu
     have : vs.getD (i * k + l) undef = v := by simp [hv]
     rw [this]
     exact hP.of_ext hE
   rw [hn] at hkey
   exact hkey
 have hI2 : Inv G w K { H := H2, lg := M.lg } := by
  refine ⟨i1.os, i1.tape, i1.output, i1.size, i1.gB, i1.old, inj_set i1 hl2 (fun i hg => by
   by_cases e1 : i = id
   ·rw [e1, h1]; simp
   ·by_cases e2 : i = o
    ·rw [e2, h3]; simp
    ·rw [hH2, List.getElem?_set_ne (fun h => e2 h.symm), List.getElem?_set_ne (fun h => e1 h.symm)] at hg
     exact hg), fun i b hi => i1.blk i b (by simpa [hl2] using hi), fun i x hi => ?_, fun i x hi cc hcc r hr => ?_, fun en hen => ?_, fun i L hi => ?_⟩
  ·rcases hs2 i x hi with ⟨rfl, rfl⟩ | ⟨rfl, rfl⟩ | ⟨_, _, h2⟩
   ·intro b hb
    obtain ⟨vs, t, q1, q2, q3⟩ := i1.obj i _ h3 b hb
    refine ⟨vs, t, q1, by simpa using q2, fun l v cv hv hcv => ?_⟩
    rw [List.getElem?_set] at hcv
    by_cases hj : j = l
    ·subst hj
     have hlt := (List.getElem?_eq_some_iff.1 h4).1
     rw [if_pos rfl, if_pos hlt] at hcv
     cases hcv
     obtain ⟨r1, r2⟩ := q3 j v _ hv h4
     exact ⟨key v r1, r2⟩
    ·rw [if_neg hj] at hcv
     obtain ⟨r1, r2⟩ := q3 l v cv hv hcv
     exact ⟨r1.ext hE (i1.content h3 cv (by simp only [contents]; exact List.mem_of_getElem? hcv)), r2⟩
   ·exact trivial
   ·exact (i1.obj i x h2).ext hE (fun _ _ => rfl) (i1.content h2)
  ·simp only [hl2]
   rcases hs2 i x hi with ⟨rfl, rfl⟩ | ⟨rfl, rfl⟩ | ⟨_, _, h2⟩
   ·simp only [contents] at hcc
    rcases List.mem_or_eq_of_mem_set hcc with hm | rfl
    ·exact i1.cl i _ h3 cc (by simp only [contents]; exact hm) r hr
    ·simp [refs] at hr
   ·simp [contents] at hcc
   ·exact i1.cl i x h2 cc hcc r hr
  ·simp only [hl2]
   exact i1.lg en hen
  ·rcases hs2 i _ hi with ⟨rfl, e2⟩ | ⟨rfl, e2⟩ | ⟨_, _, h2⟩
   ·cases e2
   ·cases e2
   ·exact i1.lpd i L h2
 have hs3 : StOk cx G w K { H := H2, lg := M.lg } a e D := ⟨hs.fr.ext (M' := { H := H2, lg := M.lg }) hE, df_ext (M' := { H := H2, lg := M.lg }) hE hs.df, hI2, (rd_ext (M' := { H := H2, lg := M.lg }) hE hs.rd).1⟩
 have h2 := h G w _ a hs3
 exact wpIn_mono h2 fun ex a' w' ⟨e', M', K', D', q1, q2, q3, q4⟩ => ⟨e', M', K', D', q1, q2, q3, hE.trans q4⟩
end
def pureV : VV → Bool
 | .p _ => true
 | .agg cs => cs.all fun c => match c with | .p _ => true | _ => false
 | _ => false
theorem RepV.pure {w : World} {K K' : Nat → Option Nat} {H H' : List VObj} {v : Value} {x : VV} (h : RepV w K H v x) (hx : pureV x = true) (him : ∀ b o, Im K' H' b o) : RepV w K' H' v x := by
 have hP : ∀ {v : Value} {y : PV}, RepP w (Im K H) v y → RepP w (Im K' H') v y := fun h => h.ext fun b o _ _ => ⟨him b o, rfl⟩
 cases h with
 | p v y h => exact .p _ _ (hP h)
 | agg vs cs hs h1 h =>
  refine .agg vs cs hs h1 fun i v c a b => ?_
  have hc := List.all_eq_true.1 hx c (List.mem_of_getElem? b)
  have hr := h i v c a b
  cases hr with
  | p v y h => exact .p _ _ (hP h)
  | _ => cases hc
 | _ => cases hx
end Go.Proofs.YtnjgdlmddlinaaaDoor.Vm

/- The library contracts of the shelf, laid at this program (strings.Builder, strings.Split, strconv.Itoa, strconv.Atoi). -/
namespace Go.Proofs
open Go.Shelf
def Tryd.lays169_ren : Go.Shelf.Ren := ⟨fun | 169 => 36 | n => n, fun | 70 => 76 | 9 => 9 | 0 => 0 | 72 => 79 | 37 => 77 | 127 => 101 | 3 => 3 | 5 => 5 | n => n, fun | n => n⟩
theorem Tryd.Builder_Extra_169 : Builder.Extra Tryd.prog Tryd.lays169_ren := {
 sizeBuilder := by kernel_rfl
 liesBuilder := by kernel_rfl
 t5 := Tryd.underlying5
 a5 := Tryd.isAgg5
 z5 := Tryd.sizeOf5
 v5 := Tryd.zeroValue5
 infoByte := by kernel_rfl
 cellsByte := by kernel_rfl
 sizeByte := by kernel_rfl
 neB5 := by decide }
def Tryd.laysM171_ren : Go.Shelf.Ren := ⟨fun | 171 => 35 | 243 => 52 | 246 => 61 | 283 => 64 | 284 => 65 | 285 => 66 | 286 => 67 | 129 => 69 | 317 => 68 | 318 => 70 | 319 => 71 | 320 => 72 | 337 => 73 | 338 => 74 | n => n, fun | 3 => 3 | 9 => 9 | 2 => 2 | 4 => 4 | 171 => 113 | 0 => 0 | 53 => 114 | 37 => 77 | 5 => 5 | 173 => 117 | 212 => 121 | 51 => 122 | 20 => 20 | 213 => 123 | 46 => 124 | 232 => 127 | 233 => 128 | n => n, fun | 17 => 0 | 18 => 1 | 19 => 2 | n => n⟩
theorem Tryd.laysM171 : Go.Proofs.LaysM.n171 Tryd.prog Tryd.laysM171_ren := {
 mixed := by kernel_rfl
 f129 := Tryd.func69.trans (congrArg some (by kernel_rfl))
 f171 := Tryd.func35.trans (congrArg some (by kernel_rfl))
 f243 := Tryd.func52.trans (congrArg some (by kernel_rfl))
 f246 := Tryd.func61.trans (congrArg some (by kernel_rfl))
 f283 := Tryd.func64.trans (congrArg some (by kernel_rfl))
 f284 := Tryd.func65.trans (congrArg some (by kernel_rfl))
 f285 := Tryd.func66.trans (congrArg some (by kernel_rfl))
 f286 := Tryd.func67.trans (congrArg some (by kernel_rfl))
 f317 := Tryd.func68.trans (congrArg some (by kernel_rfl))
 f318 := Tryd.func70.trans (congrArg some (by kernel_rfl))
 f319 := Tryd.func71.trans (congrArg some (by kernel_rfl))
 f320 := Tryd.func72.trans (congrArg some (by kernel_rfl))
 f337 := Tryd.func73.trans (congrArg some (by kernel_rfl))
 f338 := Tryd.func74.trans (congrArg some (by kernel_rfl))
 t0 := Tryd.underlying0
 a0 := Tryd.isAgg0
 z0 := Tryd.sizeOf0
 v0 := Tryd.zeroValue0
 t2 := Tryd.underlying2
 a2 := Tryd.isAgg2
 z2 := Tryd.sizeOf2
 v2 := Tryd.zeroValue2
 t3 := Tryd.underlying3
 a3 := Tryd.isAgg3
 z3 := Tryd.sizeOf3
 v3 := Tryd.zeroValue3
 t4 := Tryd.underlying4
 a4 := Tryd.isAgg4
 z4 := Tryd.sizeOf4
 v4 := Tryd.zeroValue4
 t5 := Tryd.underlying5
 a5 := Tryd.isAgg5
 z5 := Tryd.sizeOf5
 v5 := Tryd.zeroValue5
 t9 := Tryd.underlying9
 a9 := Tryd.isAgg9
 z9 := Tryd.sizeOf9
 v9 := Tryd.zeroValue9
 t20 := Tryd.underlying20
 a20 := Tryd.isAgg20
 z20 := Tryd.sizeOf20
 v20 := Tryd.zeroValue20
 t37 := Tryd.underlying77
 a37 := Tryd.isAgg77
 z37 := Tryd.sizeOf77
 v37 := Tryd.zeroValue77
 t46 := Tryd.underlying124
 a46 := Tryd.isAgg124
 z46 := Tryd.sizeOf124
 v46 := Tryd.zeroValue124
 t51 := Tryd.underlying122
 a51 := Tryd.isAgg122
 z51 := Tryd.sizeOf122
 v51 := Tryd.zeroValue122
 t53 := Tryd.underlying114
 a53 := Tryd.isAgg114
 z53 := Tryd.sizeOf114
 v53 := Tryd.zeroValue114
 t171 := Tryd.underlying113
 a171 := Tryd.isAgg113
 z171 := Tryd.sizeOf113
 v171 := Tryd.zeroValue113
 t173 := Tryd.underlying117
 a173 := Tryd.isAgg117
 z173 := Tryd.sizeOf117
 v173 := Tryd.zeroValue117
 t212 := Tryd.underlying121
 a212 := Tryd.isAgg121
 z212 := Tryd.sizeOf121
 v212 := Tryd.zeroValue121
 t213 := Tryd.underlying123
 a213 := Tryd.isAgg123
 z213 := Tryd.sizeOf123
 t232 := Tryd.underlying127
 a232 := Tryd.isAgg127
 z232 := Tryd.sizeOf127
 v232 := Tryd.zeroValue127
 t233 := Tryd.underlying128
 a233 := Tryd.isAgg128
 z233 := Tryd.sizeOf128
 v233 := Tryd.zeroValue128
 g17 := by kernel_rfl
 g18 := by kernel_rfl
 g19 := by kernel_rfl
 i0 := by kernel_rfl
 i2 := by kernel_rfl
 i3 := by kernel_rfl
 i4 := by kernel_rfl
 i5 := by kernel_rfl
 i9 := by kernel_rfl
 i20 := by kernel_rfl
 i37 := by kernel_rfl
 i46 := by kernel_rfl
 i51 := by kernel_rfl
 i53 := by kernel_rfl
 i171 := by kernel_rfl
 i173 := by kernel_rfl
 i212 := by kernel_rfl
 i232 := by kernel_rfl
 i233 := by kernel_rfl
 m17 := by kernel_rfl
 m18 := by kernel_rfl
 m19 := by kernel_rfl }
def Tryd.lays240_ren : Go.Shelf.Ren := ⟨fun | 240 => 51 | 276 => 60 | n => n, fun | 0 => 0 | 37 => 77 | 4 => 4 | 9 => 9 | 20 => 20 | 70 => 76 | 72 => 79 | 164 => 108 | n => n, fun | n => n⟩
theorem Tryd.lays240 : Go.Proofs.Lays.n240 Tryd.prog Tryd.lays240_ren := {
 mixed := by kernel_rfl
 f240 := Tryd.func51.trans (congrArg some (by kernel_rfl))
 f276 := Tryd.func60.trans (congrArg some (by kernel_rfl))
 t0 := Tryd.underlying0
 a0 := Tryd.isAgg0
 z0 := Tryd.sizeOf0
 v0 := Tryd.zeroValue0
 t4 := Tryd.underlying4
 a4 := Tryd.isAgg4
 z4 := Tryd.sizeOf4
 v4 := Tryd.zeroValue4
 t9 := Tryd.underlying9
 a9 := Tryd.isAgg9
 z9 := Tryd.sizeOf9
 v9 := Tryd.zeroValue9
 t20 := Tryd.underlying20
 a20 := Tryd.isAgg20
 z20 := Tryd.sizeOf20
 v20 := Tryd.zeroValue20
 t70 := Tryd.underlying76
 a70 := Tryd.isAgg76
 z70 := Tryd.sizeOf76
 v70 := Tryd.zeroValue76
 t72 := Tryd.underlying79
 a72 := Tryd.isAgg79
 z72 := Tryd.sizeOf79
 v72 := Tryd.zeroValue79
 t164 := Tryd.underlying108
 a164 := Tryd.isAgg108
 z164 := Tryd.sizeOf108
 v164 := Tryd.zeroValue108
}
theorem Tryd.Builder_X72_240 : Builder.X72 Tryd.prog Tryd.lays240_ren := {
 sizeBuilder := by kernel_rfl
 liesBuilder := by kernel_rfl
}
end Go.Proofs
