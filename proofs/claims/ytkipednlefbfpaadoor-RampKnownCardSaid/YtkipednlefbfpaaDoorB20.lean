/- A part of the proofs about the chapter of the ramps; it states no condition of its own. -/
import Derived.Test.YtkipednlefbfpaaDoorB14
import Derived.Test.YtkipednlefbfpaaDoorB15
import Derived.Test.YtkipednlefbfpaaDoorB18
import Derived.Test.YtkipednlefbfpaaDoorB19
import Derived.Test.YtkipednlefbfpaaDoorRows
import Derived.WalkKit
import Derived.OpenShut
import Derived.Deep.RegionHeld3
import Derived.Deep.DrawnRows
import Derived.StillTailTactics
set_option linter.unusedVariables false
set_option linter.unusedSimpArgs false
open Int renaming reduceLE → zA, reduceLT → zB, reduceToNat → zC, reduceNeg → zD
open Nat renaming reduceLT → zE, reduceEqDiff → zF, reduceAdd → zG, reduceSub → zH, reduceMul → zI, reduceLeDiff → zJ
/- The reference's search for the best plan, on values. (Vm) -/
-- TABLE TO
namespace Go.Proofs.YtkipednlefbfpaaDoor.Vm
open Go Go.Proofs
theorem in_put {l : List Int} {i : Nat} {a : Int} (h : i < l.length) : (l.take i).map vi ++ vi a :: (l.drop (i + 1)).map vi = (l.set i a).map vi := by
 rw [← ints_set l i a h]
 simp [splice]
theorem asc_len : ∀ {l : List Int} {a b : Int}, l.Pairwise (· < ·) → (∀ x ∈ l, a ≤ x ∧ x < b) → l.length ≤ (b - a).toNat
 | [], a, b, _, _ => Nat.zero_le _
 | x :: l, a, b, h, hb => by
  obtain ⟨h1, h2⟩ := List.pairwise_cons.1 h
  have hx := hb x (by simp)
  have := asc_len (l := l) (a := x + 1) (b := b) h2 fun z hz => ⟨by have := h1 z hz; omega, (hb z (by simp [hz])).2⟩
  simp only [List.length_cons]
  omega
end Go.Proofs.YtkipednlefbfpaaDoor.Vm

/- A buffer that is handed to a function that only reads: it dies, and the argument is plain data. (Vm) -/
namespace Go.Proofs.YtkipednlefbfpaaDoor.Vm
open Go Go.Proofs
theorem frz_core {G : Ghost} {w : World} {K : Nat → Option Nat} {M : Mem} {id n k : Nat} {xs : List (List PV)} (i1 : Inv G w K M) (h1 : M.H[id]? = some (.obj (xs.flatten.map .p))) (hk : ∀ x ∈ xs, x.length = k) (hn : xs.length = n) :
  Ext w K M.H w K (M.H.set id .dead) ∧ (∀ v, RepV w K M.H v (.bf id 0 n k) → RepV w K (M.H.set id .dead) v (.p (.sl k xs))) ∧ Inv G w K ⟨M.H.set id .dead, M.lg⟩ := by
 have hil := (List.getElem?_eq_some_iff.1 h1).1
 obtain ⟨H2, hH2⟩ : ∃ H2, H2 = M.H.set id .dead := ⟨_, rfl⟩
 have hl2 : H2.length = M.H.length := by rw [hH2]; simp
 have hs2 : ∀ i x, H2[i]? = some x → (i = id ∧ x = .dead) ∨ (i ≠ id ∧ M.H[i]? = some x) := fun i x hx => by
  rw [hH2] at hx
  rcases set_get hx with ⟨rfl, rfl, _⟩ | ⟨b1, b2⟩
  ·exact .inl ⟨rfl, rfl⟩
  ·exact .inr ⟨b1, b2⟩
 have hE : Ext w K M.H w K H2 := by
  refine ⟨Nat.le_refl _, Szp.refl _, fun b q _ him i ob hi hb => ?_, fun _ _ _ _ => rfl, fun i x hi => ?_⟩
  ·rcases hs2 i ob hi with ⟨rfl, rfl⟩ | ⟨_, h2⟩
   ·exact .inl trivial
   ·exact him i ob h2 hb
  ·by_cases hid : i = id
   ·subst hid
    rw [h1] at hi
    cases hi
    exact ⟨.dead, by rw [hH2, List.getElem?_set_self hil], fun _ _ e => VObj.noConfusion e, rfl⟩
   ·exact ⟨x, by rw [hH2, List.getElem?_set_ne (Ne.symm hid)]; exact hi, objLe_same rfl fun b _ => rfl⟩
 have key : ∀ v, RepV w K M.H v (.bf id 0 n k) → RepV w K H2 v (.p (.sl k xs)) := by
  intro v hv
  cases hv with
  | bf _ _ _ _ b cc A hK hnc hc hm hA hz =>
   by_cases hn0 : n = 0
   ·subst hn0
    obtain rfl := List.length_eq_zero_iff.1 hn
    exact .p _ _ (.sl A cc k 0 0 [] (fun _ _ => undef) (by simp) hm (by simp) (by simp) (by simp) (by simp) (by simp))
   obtain ⟨vs, t, q1, q2, q3⟩ := i1.obj id _ h1 _ (hK hn0)
   have hfl := flat_lenV hk
   have hcell : ∀ i x l u, xs[i]? = some x → x[l]? = some u → ∃ v, vs[i * k + l]? = some v ∧ RepP w (Im K M.H) v u := by
    intro i x l u hx hu
    have hx1 := hk x (List.mem_of_getElem? hx)
    have hi' := (List.getElem?_eq_some_iff.1 hx).1
    have hl' := (List.getElem?_eq_some_iff.1 hu).1
    have hat : xs.flatten[i * k + l]? = some u := by
     have := flat_get (k := k) hk hx (show l < k by omega)
     rw [this]; exact hu
    have hc1 : (xs.flatten.map VV.p)[i * k + l]? = some (.p u) := by rw [List.getElem?_map, hat]; rfl
    have hlt : i * k + l < vs.size := by
     have := (List.getElem?_eq_some_iff.1 hc1).1
     omega
    have hv := Array.getElem?_eq_getElem hlt
    generalize vs[i * k + l] = v at hv
    refine ⟨v, hv, ?_⟩
    obtain ⟨r1, _⟩ := q3 _ _ _ hv hc1
    cases r1 with
    | p _ _ h => exact h
   have him : ∀ q, Im K H2 b q := by
    intro q i ob hob hKi
    have hi := (List.getElem?_eq_some_iff.1 hob).1
    by_cases hgo : ob = .gone
    ·subst hgo; exact .inl trivial
    have hg1 : M.H[i]? ≠ some .gone := by
     rcases hs2 i ob hob with ⟨rfl, rfl⟩ | ⟨_, h2⟩
     ·rw [h1]; simp
     ·rw [h2]; simpa using hgo
    have := i1.inj i id b (by omega) hil hg1 (by rw [h1]; simp) hKi (hK hn0)
    subst this
    rcases hs2 i ob hob with ⟨_, rfl⟩ | ⟨h5, _⟩
    ·exact .inl trivial
    ·exact absurd rfl h5
   have hkey : RepV w K H2 (.slice A xs.length cc) (.p (.sl k xs)) := by
    refine .p _ _ (.sl A cc k b 0 xs (fun i l => vs.getD (i * k + l) undef) (by omega) hm hk (fun _ => hA hn0) (fun i x l u hx hu => him _) (fun i x l u hx hu => ?_) fun i x l u hx hu => ?_)
    ·obtain ⟨v, hv, _⟩ := hcell i x l u hx hu
     simp only [World.cell?, q1, Nat.zero_add]
     simp [hv]
    ·obtain ⟨v, hv, hP⟩ := hcell i x l u hx hu
     have : vs.getD (i * k + l) undef = v := by simp [hv]
     rw [this]
     exact hP.of_ext hE
   rw [hn] at hkey
   exact hkey
 have hI2 : Inv G w K { H := H2, lg := M.lg } := by
  refine ⟨i1.os, i1.tape, i1.output, i1.size, i1.gB, i1.old, inj_set i1 hl2 (fun i hg => by
   by_cases e1 : i = id
   ·rw [e1, h1]; simp
   ·rw [hH2, List.getElem?_set_ne (fun h => e1 h.symm)] at hg
    exact hg), fun i b hi => i1.blk i b (by simpa [hl2] using hi), fun i x hi => ?_, fun i x hi cc hcc r hr => ?_, fun en hen => ?_, fun i L hi => ?_⟩
  ·rcases hs2 i x hi with ⟨rfl, rfl⟩ | ⟨_, h2⟩
   ·exact trivial
   ·exact (i1.obj i x h2).ext hE (fun _ _ => rfl) (i1.content h2)
  ·simp only [hl2]
   rcases hs2 i x hi with ⟨rfl, rfl⟩ | ⟨_, h2⟩
   ·simp [contents] at hcc
   ·exact i1.cl i x h2 cc hcc r hr
  ·simp only [hl2]
   exact i1.lg en hen
  ·rcases hs2 i _ hi with ⟨rfl, e2⟩ | ⟨_, h2⟩
   ·cases e2
   ·exact i1.lpd i L h2
 rw [← hH2]
 exact ⟨hE, key, hI2⟩
theorem VC_frzA {P : Program} {f id n k : Nat} {xs : List (List PV)} {us vs : List VV} {M : Mem} {Q : VV → Mem → Prop} (h1 : M.H[id]? = some (.obj (xs.flatten.map .p))) (hk : ∀ x ∈ xs, x.length = k) (hn : xs.length = n)
  (h : VC P f (us ++ .p (.sl k xs) :: vs) ⟨M.H.set id .dead, M.lg⟩ Q) : VC P f (us ++ .bf id 0 n k :: vs) M Q := by
 intro G w K rargs hI ha
 obtain ⟨hE, key, hI2⟩ := frz_core hI h1 hk hn
 obtain ⟨hr, hc⟩ := ha
 have hget : ∀ (z : VV) (i : Nat), i ≠ us.length → (us ++ z :: vs)[i]? = (us ++ VV.bf id 0 n k :: vs)[i]? := fun z i hi => by
  rcases Nat.lt_or_ge i us.length with hlt | hge
  ·rw [List.getElem?_append_left hlt, List.getElem?_append_left hlt]
  ·rw [List.getElem?_append_right hge, List.getElem?_append_right hge, show i - us.length = (i - us.length - 1) + 1 by omega]
   rfl
 have hus : ∀ z : VV, (us ++ z :: vs)[us.length]? = some z := fun z => by
  rw [List.getElem?_append_right (Nat.le_refl _), Nat.sub_self]; rfl
 have hargs : ArgsOk w K ⟨M.H.set id .dead, M.lg⟩ rargs (us ++ .p (.sl k xs) :: vs) := by
  refine ⟨⟨by have := hr.1; simpa using this, fun i a b hx hy => ?_⟩, fun a hm => ?_⟩
  ·by_cases hi : i = us.length
   ·subst hi
    rw [hus] at hy
    cases hy
    exact key _ (hr.2 _ a _ hx (hus _))
   ·rw [hget _ i hi] at hy
    exact (hr.2 i a b hx hy).ext hE (hc b (List.mem_of_getElem? hy))
  ·have hl : (M.H.set id .dead).length = M.H.length := by simp
   show Cl (M.H.set id .dead).length a
   rw [hl]
   rcases List.mem_append.1 hm with hm | hm
   ·exact hc a (List.mem_append_left _ hm)
   ·rcases List.mem_cons.1 hm with rfl | hm
    ·intro r hr'
     simp [refs] at hr'
    ·exact hc a (List.mem_append_right _ (List.mem_cons_of_mem _ hm))
 refine (h G w K rargs hI2 hargs).mono ?_
 rintro e' w' ⟨rv, r, K', M', rfl, hq, q1, q2, q3, q4⟩
 exact ⟨rv, r, K', M', rfl, hq, q1, q2, hE.trans q3, q4⟩
end Go.Proofs.YtkipednlefbfpaaDoor.Vm

/- The reference's best plan, on values. (Vm) -/
namespace Go.Proofs.YtkipednlefbfpaaDoor.Vm
open Go Go.Proofs
theorem own_ret3 {T : Tab} {f : Nat} {fn : Func} {M : Mem} {L : List VObj} {e : Env} {t t' t'' : Nat} {X Y Z : VV} (h1 : fn.results.toList = [.tmp t, .tmp t', .tmp t'']) (hr : frz M.H.length (M.H ++ L) (get e t) = X) (hr' : frz M.H.length (M.H ++ L) (get e t') = Y) (hr'' : frz M.H.length (M.H ++ L) (get e t'') = Z) (h2 : refs X = []) (h2' : refs Y = []) (h2'' : refs Z = []) : ownQ T f fn M (fun r M' => M' = M ∧ r = .tup [X, Y, Z]) .ret e ⟨M.H ++ L, M.lg⟩ [] :=
 own_ret (vs := [get e t, get e t', get e t'']) (by rw [h1]; rfl) (by simp only [vtup, frz, frzL, hr, hr', hr'']) (by simp [refs, refsL, h2, h2', h2'']) ⟨rfl, rfl⟩
def serveV (y : Ya) : VV := .tup [stsV (serveT y).1, vi (serveT y).2.1, vi (serveT y).2.2]
end Go.Proofs.YtkipednlefbfpaaDoor.Vm

/- Whether a cart may stand on a ramp, on values. (Vm) -/
namespace Go.Proofs.YtkipednlefbfpaaDoor.Vm
open Go Go.Proofs
def wkC (l : List (Nat × Nat)) : List VV := (l.map fun w => [su w.1, su w.2]).flatten
theorem wkC_len : ∀ l : List (Nat × Nat), (wkC l).length = l.length * 2
 | [] => rfl
 | w :: l => by
  have := wkC_len l
  simp only [wkC, List.map_cons, List.flatten_cons, List.length_append] at this ⊢
  simp only [this, List.length_cons, List.length_nil]
  omega
theorem wkC_get {l : List (Nat × Nat)} {i : Nat} (h : i < l.length) : (wkC l)[i * 2]? = some (su (l.getD i (0, 0)).1) ∧ (wkC l)[i * 2 + 1]? = some (su (l.getD i (0, 0)).2) := by
 have hk : ∀ x ∈ l.map (fun w => [su w.1, su w.2]), x.length = 2 := fun x hx => by obtain ⟨z, _, rfl⟩ := List.mem_map.1 hx; rfl
 have hg : (l.map fun w => [su w.1, su w.2])[i]? = some [su (l.getD i (0, 0)).1, su (l.getD i (0, 0)).2] := by simp [h]
 unfold wkC
 have h0 := flat_get (i := i) (j := 0) hk hg (by omega)
 have h1 := flat_get (i := i) (j := 1) hk hg (by omega)
 exact ⟨h0, h1⟩
def ryC (R : Ry) : List VV := yardC R.y ++ (wkC R.wk ++ (R.frm.map vi ++ [vi R.til]))
abbrev ryV (R : Ry) : VV := .agg (ryC R)
section
variable {R : Ry} (h : RyOk R)
include h
theorem ry_len : (ryC R).length = 17 := by
 have := wkC_len R.wk
 have := h.wl
 have := h.fl
 simp [ryC]; omega
omit h in
theorem ry_0 : (ryC R)[0]? = some (rasV R.y.ramps) := rfl
omit h in
theorem ry_1 : (ryC R)[1]? = some (ctsV R.y.carts) := rfl
omit h in
theorem ry_2 : (ryC R)[2]? = some (vi R.y.sweep) := rfl
theorem ry_m {r : Nat} (hr : r < 3) : (ryC R)[3 + r * 2]? = some (su (mustAt R r)) := by
 have hl := wkC_len R.wk
 have hw := h.wl
 unfold ryC
 rw [List.getElem?_append_right (by simp), List.getElem?_append_left (by simp; omega)]
 rw [show 3 + r * 2 - (yardC R.y).length = r * 2 by simp]
 exact (wkC_get (by omega)).1
theorem ry_n {r : Nat} (hr : r < 3) : (ryC R)[3 + (r * 2 + 1)]? = some (su (notAt R r)) := by
 have hl := wkC_len R.wk
 have hw := h.wl
 unfold ryC
 rw [List.getElem?_append_right (by simp), List.getElem?_append_left (by simp; omega)]
 rw [show 3 + (r * 2 + 1) - (yardC R.y).length = r * 2 + 1 by simp]
 exact (wkC_get (by omega)).2
theorem ry_f {c : Nat} (hc : c < 7) : (ryC R)[9 + c]? = some (vi (frmAt R c)) := by
 have hl := wkC_len R.wk
 have hw := h.wl
 have hf := h.fl
 unfold ryC
 rw [List.getElem?_append_right (by simp; omega), List.getElem?_append_right (by simp; omega), List.getElem?_append_left (by simp; omega)]
 rw [show 9 + c - (yardC R.y).length - (wkC R.wk).length = c by simp; omega]
 have : c < R.frm.length := by omega
 simp [frmAt, this]
theorem ry_t : (ryC R)[16]? = some (vi R.til) := by
 have hl := wkC_len R.wk
 have hw := h.wl
 have hf := h.fl
 unfold ryC
 rw [List.getElem?_append_right (by simp), List.getElem?_append_right (by simp; omega), List.getElem?_append_right (by simp; omega)]
 rw [show 16 - (yardC R.y).length - (wkC R.wk).length - (R.frm.map vi).length = 0 by simp; omega]
 rfl
omit h in
theorem ry_plain : ∀ v ∈ ryC R, isCell v = true ∧ strip1 v = v := by
 intro v hv
 unfold ryC wkC at hv
 rcases List.mem_append.1 hv with hv | hv
 ·simp only [yardC, List.mem_cons, List.not_mem_nil, or_false] at hv
  rcases hv with rfl | rfl | rfl <;> exact ⟨rfl, rfl⟩
 ·rcases List.mem_append.1 hv with hv | hv
  ·obtain ⟨l, hl, hv⟩ := List.mem_flatten.1 hv
   obtain ⟨w, _, rfl⟩ := List.mem_map.1 hl
   simp only [List.mem_cons, List.not_mem_nil, or_false] at hv
   rcases hv with rfl | rfl <;> exact ⟨rfl, rfl⟩
  ·rcases List.mem_append.1 hv with hv | hv
   ·obtain ⟨w, _, rfl⟩ := List.mem_map.1 hv
    exact ⟨rfl, rfl⟩
   ·rw [List.mem_singleton] at hv
    subst hv
    exact ⟨rfl, rfl⟩
omit h in
theorem ry_cells : (ryC R).all isCell = true := List.all_eq_true.2 fun v hv => (ry_plain v hv).1
omit h in
theorem ry_strip : (ryC R).map strip1 = ryC R := by
 conv => rhs; rw [← List.map_id (ryC R)]
 exact List.map_congr_left fun v hv => (ry_plain v hv).2
theorem ry_take : (ryC R).take 17 = ryC R := List.take_of_length_le (by rw [ry_len h]; exact Nat.le_refl _)
theorem ry_le : (17 ≤ (ryC R).length) = True := eq_true (by rw [ry_len h]; exact Nat.le_refl _)
end
set_option maxHeartbeats 1000000 in
theorem may_v {R : Ry} (hR : RyOk R) (c r : Nat) (M : Mem) (hc : c < R.y.carts.length) (hr : r < R.y.ramps.length) : VC Tryd.prog 40 [ryV R, vi c, vi r] M (fun x M' => M' = M ∧ x = vb (mayB R c r)) := by
 have hm7 := hR.y.m1
 have hn3 := hR.y.n1
 have hcv := hR.y.ct _ (ctAt_mem hc)
 have hlen := asc_len hcv.asc (a := 0) (b := R.y.ramps.length) hcv.r
 have hrl : (ctAt R.y c).ramps.length ≤ 1000000 := by omega
 have hc8 : c ≤ 8 := by omega
 have hn256 : notAt R r < 256 := by have := (hR.w r).2; omega
 have hr3 : r < 3 := by omega
 have hy' := map_at (f := ctP) (ctAt_get hc)
 have hz' := map_at (f := raP) (raAt_get (y := R.y) (r := (r : Int)) (by omega) (by omega))
 rw [Int.toNat_natCast] at hz'
 have hnot := (hR.w r).2
 have e0 : mayB R c r = mayB R c r := rfl
 conv at e0 => rhs; unfold mayB rAt
 refine VC_own' T_ok (f := 40) (fn := Tryd.f40) (by kernel_rfl) rfl Tryd.ntmps40 (by rfl) (by rfl) ?_
 ((repeat refine Ws ?_);refine W_regionE T_ok ?_; intro Kn hKn)
 ((simp (maxSteps := 1000000) only [VL,VM,↓VG,reduceIte,reduceCtorEq,zA,zB,zC,zD,zE,zF,zG,zH,zI,zJ, ry_cells]); rw [hKn];clear hKn Kn;simp only [QV,reduceIte,reduceCtorEq,Nat.reduceEqDiff])
 ((repeat refine Ws ?_);refine W_regionE T_ok ?_; intro Kn hKn)
 ((simp (maxSteps := 1000000) only [VL,VM,↓VG,reduceIte,reduceCtorEq,zA,zB,zC,zD,zE,zF,zG,zH,zI,zJ, ry_1, hy']); rw [hKn];clear hKn Kn;simp only [QV,reduceIte,reduceCtorEq,Nat.reduceEqDiff])
 by_cases h1 : (r : Int) ∈ (ctAt R.y c).ramps
 ·by_cases h2 : (ctAt R.y c).grams ≤ (raAt R.y r).bears
  ·skip
   (repeat refine Ws ?_)
   refine W_drawE T_ok [] (by kernel_rfl) (by kernel_rfl) ?_
   intro Kn hKn
   generalize hi : mkPlan _ = infs
   cbv at hi
   subst hi
   simp (maxSteps := 1000000) only [VL,VM,↓VG,reduceIte,reduceCtorEq,zA,zB,zC,zD,zE,zF,zG,zH,zI,zJ]
   apply call_d (f := 24) (fn := Tryd.f24) (by kernel_rfl) (by rfl)
   ·exact contains_v (ctAt R.y c).ramps r _ hrl
   simp (maxSteps := 1000000) only [VL,VM,↓VG,reduceIte,reduceCtorEq,zA,zB,zC,zD,zE,zF,zG,zH,zI,zJ, h1, ry_0, hz', h2, ry_n hR hr3, hr3]
   apply call_d (f := 51) (fn := Tryd.f51) (by kernel_rfl) (by rfl)
   ·exact has_v (notAt R r) c _ hn256 hc8
   ((simp (maxSteps := 1000000) only [VL,VM,↓VG,reduceIte,reduceCtorEq,zA,zB,zC,zD,zE,zF,zG,zH,zI,zJ]); rw [hKn];clear hKn Kn;simp only [QV,reduceIte,reduceCtorEq,Nat.reduceEqDiff])
   (repeat refine Ws ?_)
   refine W_ret ?_
   try simp only [thenQ, blockQ]
   refine own_ret1 rfl ?_ (by rfl)
   simp only [get_cons, frz, vtup, Nat.reduceEqDiff, if_true, if_false, reduceIte]
   rw [e0]
   simp [h1, h2]
  ·skip
   (repeat refine Ws ?_)
   refine W_drawE T_ok [] (by kernel_rfl) (by kernel_rfl) ?_
   intro Kn hKn
   generalize hi : mkPlan _ = infs
   cbv at hi
   subst hi
   simp (maxSteps := 1000000) only [VL,VM,↓VG,reduceIte,reduceCtorEq,zA,zB,zC,zD,zE,zF,zG,zH,zI,zJ]
   apply call_d (f := 24) (fn := Tryd.f24) (by kernel_rfl) (by rfl)
   ·exact contains_v (ctAt R.y c).ramps r _ hrl
   ((simp (maxSteps := 1000000) only [VL,VM,↓VG,reduceIte,reduceCtorEq,zA,zB,zC,zD,zE,zF,zG,zH,zI,zJ, h1, ry_0, hz', h2]); rw [hKn];clear hKn Kn;simp only [QV,reduceIte,reduceCtorEq,Nat.reduceEqDiff])
   (repeat refine Ws ?_)
   refine W_ret ?_
   try simp only [thenQ, blockQ]
   refine own_ret1 rfl ?_ (by rfl)
   simp only [get_cons, frz, vtup, Nat.reduceEqDiff, if_true, if_false, reduceIte]
   rw [e0]
   simp [h1, h2]
 ·skip
  (repeat refine Ws ?_)
  refine W_drawE T_ok [] (by kernel_rfl) (by kernel_rfl) ?_
  intro Kn hKn
  generalize hi : mkPlan _ = infs
  cbv at hi
  subst hi
  simp (maxSteps := 1000000) only [VL,VM,↓VG,reduceIte,reduceCtorEq,zA,zB,zC,zD,zE,zF,zG,zH,zI,zJ]
  apply call_d (f := 24) (fn := Tryd.f24) (by kernel_rfl) (by rfl)
  ·exact contains_v (ctAt R.y c).ramps r _ hrl
  ((simp (maxSteps := 1000000) only [VL,VM,↓VG,reduceIte,reduceCtorEq,zA,zB,zC,zD,zE,zF,zG,zH,zI,zJ, h1]); rw [hKn];clear hKn Kn;simp only [QV,reduceIte,reduceCtorEq,Nat.reduceEqDiff])
  (repeat refine Ws ?_)
  refine W_ret ?_
  try simp only [thenQ, blockQ]
  refine own_ret1 rfl ?_ (by rfl)
  simp only [get_cons, frz, vtup, Nat.reduceEqDiff, if_true, if_false, reduceIte]
  rw [e0]
  simp [h1]
end Go.Proofs.YtkipednlefbfpaaDoor.Vm

/- Dice: what they show is within bounds; they change themselves alone. -/
namespace Go.Proofs.YtkipednlefbfpaaDoor
open Go.RowKit
attribute [local go_sem ↓] Go.wp_at_zero Go.wp_at_succ

end Go.Proofs.YtkipednlefbfpaaDoor

/- Dice, on values. (Vm) -/
namespace Go.Proofs.YtkipednlefbfpaaDoor.Vm
open Go Go.Proofs
section
variable {H0 : List VObj} {d : Nat} (hd : d < H0.length) {u : Int} {L : List VObj}
include hd
end
end Go.Proofs.YtkipednlefbfpaaDoor.Vm

/- Dice, on values, part 2. (Vm) -/
namespace Go.Proofs.YtkipednlefbfpaaDoor.Vm
open Go Go.Proofs
section
variable {H0 : List VObj} {d : Nat} (hd : d < H0.length) {u : Int} {L : List VObj}
include hd
end
end Go.Proofs.YtkipednlefbfpaaDoor.Vm

/- Dice, on values, part 3. (Vm) -/
namespace Go.Proofs.YtkipednlefbfpaaDoor.Vm
open Go Go.Proofs
end Go.Proofs.YtkipednlefbfpaaDoor.Vm

/- Dice made of numbers, places, loads, on values. (Vm) -/
namespace Go.Proofs.YtkipednlefbfpaaDoor.Vm
open Go Go.Proofs
theorem VC_esc {P : Program} {T : Tab} (hT : TabOk P T) {f : Nat} {fn : Func} {c : Code} {nt : Nat} {args : List VV} {M : Mem} {Q : VV → Mem → Prop} (hf : T.fn f = some fn) (hb : fn.body = some c) (hnt : fn.ntmps = nt) (hn : Nat.ble args.length nt = true) (hk : T.keeps f = false)
  (h : WCode P ⟨f, none, nt⟩ c (zipEnv 0 args) M [] (fun ex e M' D => (ex = .normal ∨ ex = .ret) ∧ D = [] ∧ ∃ vs, vresL T e M' fn.results.toList = some vs ∧ (∃ x ∈ refs (frz M.H.length M'.H (vtup vs)), M.H.length ≤ x) ∧ Q (vtup vs) M')) : VC P f args M Q := by
 subst hnt
 refine VC_fn hT hf hb (Nat.le_of_ble_eq_true hn) fun hlg => h.mono ?_
 rintro ex e M' D ⟨hex, rfl, vs, h1, ⟨x, hx, hx2⟩, h3⟩
 have key : retQ T f M.H.length fn Q .ret e M' [] := by
  simp only [retQ, vkill]
  have hM : ({ M' with H := M'.H } : Mem) = M' := rfl
  rw [hM, h1]
  simp only
  have q3 : ((refs (frz M.H.length M'.H (vtup vs))).all (Nat.blt · M.H.length)) = false := by
   rw [List.all_eq_false]
   exact ⟨x, hx, by rw [Nat.blt_eq]; omega⟩
  unfold vfinish
  rw [hk, q3, Bool.and_false]
  exact h3
 rcases hex with rfl | rfl
 ·exact key
 ·exact key
end Go.Proofs.YtkipednlefbfpaaDoor.Vm

/- A call whose result leads to an object of plain data: the object is read only from then on. (Vm) -/
namespace Go.Proofs.YtkipednlefbfpaaDoor.Vm
open Go Go.Proofs
theorem im_take {K : Nat → Option Nat} {H : List VObj} {n b o : Nat} (h : Im K H b o) : Im K (H.take n) b o := fun i ob hi hk => h i ob (by
 rw [List.getElem?_take] at hi
 split at hi
 ·exact hi
 ·cases hi) hk
theorem ptr_ip {G : Ghost} {w : World} {K : Nat → Option Nat} {M : Mem} (hI : Inv G w K M) {n id : Nat} {cs : List PV} {v : Value} (hn : n ≤ id) (ho : M.H[id]? = some (.obj (cs.map .p))) (h : RepV w K M.H v (.ptr id 0)) : RepV w K (M.H.take n) v (.ip cs) := by
 cases h with
 | ptr _ _ b hK hnc =>
  obtain ⟨vs, t, q1, q2, q3⟩ := hI.obj id _ ho _ hK
  rw [List.length_map] at q2
  have hil := (List.getElem?_eq_some_iff.1 ho).1
  have him : ∀ o, Im K (M.H.take n) b o := fun o i ob hi hKi => by
   rw [List.getElem?_take] at hi
   split at hi
   ·rename_i hlt
    by_cases hg : ob = .gone
    ·subst hg; exact .inl trivial
    ·have hi' := (List.getElem?_eq_some_iff.1 hi).1
     have := hI.inj i id b hi' hil (by rw [hi]; simpa using hg) (by rw [ho]; simp) hKi hK
     omega
   ·cases hi
  have hcell : ∀ j u, cs[j]? = some u → ∃ x, vs[j]? = some x ∧ RepP w (Im K M.H) x u := fun j u hu => by
   have hj := (List.getElem?_eq_some_iff.1 hu).1
   have hv := Array.getElem?_eq_getElem (show j < vs.size by omega)
   generalize vs[j] = x at hv
   refine ⟨x, hv, ?_⟩
   obtain ⟨r1, _⟩ := q3 j x (.p u) hv (by rw [List.getElem?_map, hu]; rfl)
   cases r1 with
   | p _ _ h => exact h
  refine .ip cs b 0 (fun j => vs.getD j undef) (fun j u hu => him _) (fun j u hu => ?_) (fun j u hu => ?_)
  ·obtain ⟨x, hx, _⟩ := hcell j u hu
   simp only [World.cell?, q1, Nat.zero_add]
   simp [hx]
  ·obtain ⟨x, hx, hp⟩ := hcell j u hu
   have : vs.getD j undef = x := by simp [hx]
   rw [this]
   exact hp.ext fun b o _ hi => ⟨im_take hi, rfl⟩
theorem VC_cutP {P : Program} {f : Nat} {args : List VV} {M : Mem} {Q Q' : VV → Mem → Prop} (h : VC P f args M Q) (hq : (∀ e ∈ M.lg, e.1 < M.H.length ∧ e.2 < M.H.length) → ∀ r M', Q r M' → ∃ id cs lg', r = .ptr id 0 ∧ M.H.length ≤ id ∧ M'.H[id]? = some (.obj (cs.map .p)) ∧ (∀ e ∈ M'.lg, e.1 < M.H.length → e.2 < M.H.length ∧ e ∈ lg') ∧ (∀ e ∈ lg', e.1 < M.H.length ∧ e.2 < M.H.length) ∧ Q' (.ip cs) ⟨M'.H.take M.H.length, lg'⟩) : VC P f args M Q' := by
 intro G w K rargs hI ha
 refine (h G w K rargs hI ha).mono ?_
 intro e w'
 rintro ⟨rv, r, K', M', he, hQ, h1, h2, h3, h4⟩
 obtain ⟨id, cs, lg', rfl, g1, g2, g3, g4, g5⟩ := hq hI.lg r M' hQ
 refine ⟨rv, _, K', _, he, g5, ptr_ip h4 g1 g2 h1, fun q hq => by simp [refs] at hq, ?_, inv_take h4 (by have := (List.getElem?_eq_some_iff.1 g2).1; omega) g3 g4⟩
 refine h3.keep (keep_take _) (Nat.le_refl _) fun i hi => ⟨?_, rfl, fun _ _ _ => rfl⟩
 rw [List.getElem?_take_of_lt (by omega)]
theorem VC_ipq {f : Nat} {fn : Func} {c : Code} {nt : Nat} {args : List VV} {M : Mem} {cs : List PV} (hf : T.fn f = some fn) (hb : fn.body = some c) (hnt : fn.ntmps = nt) (hn : Nat.ble args.length nt = true) (hk : T.keeps f = false)
  (h : WCode Tryd.prog ⟨f, none, nt⟩ c (zipEnv 0 args) M [] (fun ex e M' D => (ex = .normal ∨ ex = .ret) ∧ D = [] ∧ ∃ id L, vresL T e M' fn.results.toList = some [.ptr id 0] ∧ M.H.length ≤ id ∧ M'.H = M.H ++ L ∧ M'.lg = M.lg ∧ M'.H[id]? = some (.obj (cs.map .p)))) : VC Tryd.prog f args M (fun r M' => M' = M ∧ r = .ip cs) := by
 refine VC_cutP (Q := fun r M' => ∃ id L, r = .ptr id 0 ∧ M.H.length ≤ id ∧ M'.H = M.H ++ L ∧ M'.lg = M.lg ∧ M'.H[id]? = some (.obj (cs.map .p))) (VC_esc T_ok hf hb hnt hn hk (h.mono ?_)) ?_
 ·rintro ex e M' D ⟨h1, h2, id, L, h3, h4, h5, h6, h7⟩
  exact ⟨h1, h2, _, h3, ⟨id, by simp [vtup, frz, refs], h4⟩, id, L, rfl, h4, h5, h6, h7⟩
 ·rintro hlg r M' ⟨id, L, rfl, h4, h5, h6, h7⟩
  refine ⟨id, cs, M.lg, rfl, h4, h7, fun e he h => ?_, hlg, ?_, rfl⟩
  ·rw [h6] at he
   exact ⟨(hlg e he).2, he⟩
  ·rw [h5]; simp
end Go.Proofs.YtkipednlefbfpaaDoor.Vm

/- A scope through which the run goes without a jump. (Vm) -/
namespace Go.Proofs.YtkipednlefbfpaaDoor.Vm
open Go Go.Proofs
section
variable {P : Program} {b : Frame} {a : Act} {k : List Item} {cs : List Frame} {w : World}
theorem stepR_scope {c : Code} : step P (lone (b.atR a (.code (.scope c) :: k)) cs w) = .next (lone (b.atR a (.code c :: .inScope c :: k)) cs w) :=
 step_lone_go (by simp [stepG, stepG.exec, Frame.atR])
theorem stepR_inScope {c : Code} : step P (lone (b.atR a (.inScope c :: k)) cs w) = .next (lone (b.atR a k) cs w) :=
 step_lone_go (by simp [stepG, stepG.exec, Frame.atR])
end
theorem wpIn_scope {F : Fence} {n : Nat} {P : Program} {Q : Exit → Act → World → Prop} {a : Act} {w : World} {c : Code} (hQ : ∀ l a w, ¬ Q (.goto l) a w) (h : c.wpIn F n P Q a w) : (Code.scope c).wpIn F n P Q a w := by
 intro b k cs hro hb hr
 have h0 : (lone (b.atR a (.code (.scope c) :: k)) cs w).fenced P F := fenced_calm hb hr rfl
 obtain ⟨e, a₁, w₁, hq, harr⟩ := h b (.inScope c :: k) cs hro hb hr
 cases e with
 | normal => exact ⟨.normal, a₁, w₁, hq, .head h0 stepR_scope (StepsIn.trans harr (.one (fenced_calm hb hr rfl) stepR_inScope))⟩
 | exit id =>
  have hx : exitTo id (.inScope c :: k) = exitTo id k := by simp [exitTo]
  exact ⟨.exit id, a₁, w₁, hq, fun k' hk => .head h0 stepR_scope (harr.1 k' (by rw [hx]; exact hk)),
   fun hr' hk => let ⟨k₁, h1, h2⟩ := harr.2 hr' (by rw [hx]; exact hk); ⟨k₁, h1, .head h0 stepR_scope h2⟩⟩
 | goto l => exact absurd hq (hQ l _ _)
 | ret => exact ⟨_, a₁, w₁, hq, .of_steps (.one h0 stepR_scope) harr⟩
 | panic ch => exact ⟨_, a₁, w₁, hq, .of_steps (.one h0 stepR_scope) harr⟩
 | outgrown => exact ⟨_, a₁, w₁, hq, .of_steps (.one h0 stepR_scope) harr⟩
theorem W_scope {P : Program} {cx : Cx} {e : Env} {M : Mem} {D : List Nat} {Q : PQ} {c : Code} (h : WCode P cx c e M D Q) : WCode P cx (.scope c) e M D Q := fun G w K a hs =>
 wpIn_scope (fun l a w ⟨_, _, _, _, _, hx, _⟩ => hx.elim) (h G w K a hs)
theorem W_then {P : Program} {cx : Cx} {e : Env} {M : Mem} {D : List Nat} {Q : PQ} {c : Code} {Kn : Env → Mem → List Nat → Prop} (E : Env) (M1 : Mem) (h1 : WCode P cx c e M D (fun ex e' M' D' => ex = .normal ∧ D' = D ∧ M' = M1 ∧ Sub E e')) (h2 : WCode P cx .skip E M1 D (fun _ _ _ _ => True) → ∀ e', Sub E e' → Kn e' M1 D) : WCode P cx c e M D (thenQ Kn Q) :=
 h1.mono (by rintro ex e' M' D' ⟨rfl, rfl, rfl, hS⟩; exact h2 (W_skip trivial) e' hS)
theorem W_thenC {P : Program} {cx : Cx} {e : Env} {M : Mem} {D : List Nat} {Q Q' : PQ} {c c' : Code} (E : Env) (M1 : Mem) (h1 : WCode P cx c e M D (fun ex e' M' D' => ex = .normal ∧ D' = D ∧ M' = M1 ∧ Sub E e')) (h2 : WCode P cx c' E M1 D Q') : WCode P cx c e M D (thenQ (fun e' M' D' => WCode P cx c' e' M' D' Q') Q) :=
 W_then E M1 h1 fun _ _ hS => h2.weak hS.ok
end Go.Proofs.YtkipednlefbfpaaDoor.Vm
