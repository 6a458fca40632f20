/- A part of the proofs about the chapter of the ramps; it states no condition of its own. -/
import Derived.Test.YtmiiipdgbkipjaaGreatDoorB14
import Derived.Test.YtmiiipdgbkipjaaGreatDoorB15
import Derived.Test.YtmiiipdgbkipjaaGreatDoorB18
import Derived.Test.YtmiiipdgbkipjaaGreatDoorB19
import Derived.Test.YtmiiipdgbkipjaaGreatDoorB20
import Derived.Test.YtmiiipdgbkipjaaGreatDoorRows
import Derived.WalkKit
import Derived.OpenShut
import Derived.Deep.RegionHeld3
import Derived.Deep.DrawnRows
import Derived.StillTailTactics
set_option linter.unusedVariables false
set_option linter.unusedSimpArgs false
open Int renaming reduceLE → zA, reduceLT → zB, reduceToNat → zC, reduceNeg → zD
open Nat renaming reduceLT → zE, reduceEqDiff → zF, reduceAdd → zG, reduceSub → zH, reduceMul → zI, reduceLeDiff → zJ
/- Last, Before, on values. (Vm) -/
namespace Go.Proofs.YtmiiipdgbkipjaaGreatDoor.Vm
open Go Go.Proofs
end Go.Proofs.YtmiiipdgbkipjaaGreatDoor.Vm

/- The reference's search for the best plan, on values. (Vm) -/
-- TABLE TO
namespace Go.Proofs.YtmiiipdgbkipjaaGreatDoor.Vm
open Go Go.Proofs
theorem in_put {l : List Int} {i : Nat} {a : Int} (h : i < l.length) : (l.take i).map vi ++ vi a :: (l.drop (i + 1)).map vi = (l.set i a).map vi := by
 rw [← ints_set l i a h]
 simp [splice]
theorem asc_len : ∀ {l : List Int} {a b : Int}, l.Pairwise (· < ·) → (∀ x ∈ l, a ≤ x ∧ x < b) → l.length ≤ (b - a).toNat
 | [], a, b, _, _ => Nat.zero_le _
 | x :: l, a, b, h, hb => by
  obtain ⟨h1, h2⟩ := List.pairwise_cons.1 h
  have hx := hb x (by simp)
  have := asc_len (l := l) (a := x + 1) (b := b) h2 fun z hz => ⟨by have := h1 z hz; omega, (hb z (by simp [hz])).2⟩
  simp only [List.length_cons]
  omega
end Go.Proofs.YtmiiipdgbkipjaaGreatDoor.Vm

/- A buffer that is handed to a function that only reads: it dies, and the argument is plain data. (Vm) -/
namespace Go.Proofs.YtmiiipdgbkipjaaGreatDoor.Vm
open Go Go.Proofs
end Go.Proofs.YtmiiipdgbkipjaaGreatDoor.Vm

/- The reference's best plan, on values. (Vm) -/
namespace Go.Proofs.YtmiiipdgbkipjaaGreatDoor.Vm
open Go Go.Proofs
theorem own_ret3 {T : Tab} {f : Nat} {fn : Func} {M : Mem} {L : List VObj} {e : Env} {t t' t'' : Nat} {X Y Z : VV} (h1 : fn.results.toList = [.tmp t, .tmp t', .tmp t'']) (hr : frz M.H.length (M.H ++ L) (get e t) = X) (hr' : frz M.H.length (M.H ++ L) (get e t') = Y) (hr'' : frz M.H.length (M.H ++ L) (get e t'') = Z) (h2 : refs X = []) (h2' : refs Y = []) (h2'' : refs Z = []) : ownQ T f fn M (fun r M' => M' = M ∧ r = .tup [X, Y, Z]) .ret e ⟨M.H ++ L, M.lg⟩ [] :=
 own_ret (vs := [get e t, get e t', get e t'']) (by rw [h1]; rfl) (by simp only [vtup, frz, frzL, hr, hr', hr'']) (by simp [refs, refsL, h2, h2', h2'']) ⟨rfl, rfl⟩
def serveV (y : Ya) : VV := .tup [stsV (serveT y).1, vi (serveT y).2.1, vi (serveT y).2.2]
end Go.Proofs.YtmiiipdgbkipjaaGreatDoor.Vm

/- Whether a cart may stand on a ramp, on values. (Vm) -/
namespace Go.Proofs.YtmiiipdgbkipjaaGreatDoor.Vm
open Go Go.Proofs
def wkC (l : List (Nat × Nat)) : List VV := (l.map fun w => [su w.1, su w.2]).flatten
theorem wkC_len : ∀ l : List (Nat × Nat), (wkC l).length = l.length * 2
 | [] => rfl
 | w :: l => by
  have := wkC_len l
  simp only [wkC, List.map_cons, List.flatten_cons, List.length_append] at this ⊢
  simp only [this, List.length_cons, List.length_nil]
  omega
theorem wkC_get {l : List (Nat × Nat)} {i : Nat} (h : i < l.length) : (wkC l)[i * 2]? = some (su (l.getD i (0, 0)).1) ∧ (wkC l)[i * 2 + 1]? = some (su (l.getD i (0, 0)).2) := by
 have hk : ∀ x ∈ l.map (fun w => [su w.1, su w.2]), x.length = 2 := fun x hx => by obtain ⟨z, _, rfl⟩ := List.mem_map.1 hx; rfl
 have hg : (l.map fun w => [su w.1, su w.2])[i]? = some [su (l.getD i (0, 0)).1, su (l.getD i (0, 0)).2] := by simp [h]
 unfold wkC
 have h0 := flat_get (i := i) (j := 0) hk hg (by omega)
 have h1 := flat_get (i := i) (j := 1) hk hg (by omega)
 exact ⟨h0, h1⟩
def ryC (R : Ry) : List VV := yardC R.y ++ (wkC R.wk ++ (R.frm.map vi ++ [vi R.til]))
abbrev ryV (R : Ry) : VV := .agg (ryC R)
section
variable {R : Ry} (h : RyOk R)
include h
theorem ry_len : (ryC R).length = 17 := by
 have := wkC_len R.wk
 have := h.wl
 have := h.fl
 simp [ryC]; omega
omit h in
theorem ry_0 : (ryC R)[0]? = some (rasV R.y.ramps) := rfl
omit h in
theorem ry_1 : (ryC R)[1]? = some (ctsV R.y.carts) := rfl
omit h in
theorem ry_2 : (ryC R)[2]? = some (vi R.y.sweep) := rfl
theorem ry_m {r : Nat} (hr : r < 3) : (ryC R)[3 + r * 2]? = some (su (mustAt R r)) := by
 have hl := wkC_len R.wk
 have hw := h.wl
 unfold ryC
 rw [List.getElem?_append_right (by simp), List.getElem?_append_left (by simp; omega)]
 rw [show 3 + r * 2 - (yardC R.y).length = r * 2 by simp]
 exact (wkC_get (by omega)).1
theorem ry_n {r : Nat} (hr : r < 3) : (ryC R)[3 + (r * 2 + 1)]? = some (su (notAt R r)) := by
 have hl := wkC_len R.wk
 have hw := h.wl
 unfold ryC
 rw [List.getElem?_append_right (by simp), List.getElem?_append_left (by simp; omega)]
 rw [show 3 + (r * 2 + 1) - (yardC R.y).length = r * 2 + 1 by simp]
 exact (wkC_get (by omega)).2
theorem ry_f {c : Nat} (hc : c < 7) : (ryC R)[9 + c]? = some (vi (frmAt R c)) := by
 have hl := wkC_len R.wk
 have hw := h.wl
 have hf := h.fl
 unfold ryC
 rw [List.getElem?_append_right (by simp; omega), List.getElem?_append_right (by simp; omega), List.getElem?_append_left (by simp; omega)]
 rw [show 9 + c - (yardC R.y).length - (wkC R.wk).length = c by simp; omega]
 have : c < R.frm.length := by omega
 simp [frmAt, this]
theorem ry_t : (ryC R)[16]? = some (vi R.til) := by
 have hl := wkC_len R.wk
 have hw := h.wl
 have hf := h.fl
 unfold ryC
 rw [List.getElem?_append_right (by simp), List.getElem?_append_right (by simp; omega), List.getElem?_append_right (by simp; omega)]
 rw [show 16 - (yardC R.y).length - (wkC R.wk).length - (R.frm.map vi).length = 0 by simp; omega]
 rfl
omit h in
theorem ry_plain : ∀ v ∈ ryC R, isCell v = true ∧ strip1 v = v := by
 intro v hv
 unfold ryC wkC at hv
 rcases List.mem_append.1 hv with hv | hv
 ·simp only [yardC, List.mem_cons, List.not_mem_nil, or_false] at hv
  rcases hv with rfl | rfl | rfl <;> exact ⟨rfl, rfl⟩
 ·rcases List.mem_append.1 hv with hv | hv
  ·obtain ⟨l, hl, hv⟩ := List.mem_flatten.1 hv
   obtain ⟨w, _, rfl⟩ := List.mem_map.1 hl
   simp only [List.mem_cons, List.not_mem_nil, or_false] at hv
   rcases hv with rfl | rfl <;> exact ⟨rfl, rfl⟩
  ·rcases List.mem_append.1 hv with hv | hv
   ·obtain ⟨w, _, rfl⟩ := List.mem_map.1 hv
    exact ⟨rfl, rfl⟩
   ·rw [List.mem_singleton] at hv
    subst hv
    exact ⟨rfl, rfl⟩
omit h in
theorem ry_cells : (ryC R).all isCell = true := List.all_eq_true.2 fun v hv => (ry_plain v hv).1
omit h in
theorem ry_strip : (ryC R).map strip1 = ryC R := by
 conv => rhs; rw [← List.map_id (ryC R)]
 exact List.map_congr_left fun v hv => (ry_plain v hv).2
theorem ry_take : (ryC R).take 17 = ryC R := List.take_of_length_le (by rw [ry_len h]; exact Nat.le_refl _)
theorem ry_le : (17 ≤ (ryC R).length) = True := eq_true (by rw [ry_len h]; exact Nat.le_refl _)
end
set_option maxHeartbeats 1000000 in
theorem may_v {R : Ry} (hR : RyOk R) (c r : Nat) (M : Mem) (hc : c < R.y.carts.length) (hr : r < R.y.ramps.length) : VC Tryz.prog 43 [ryV R, vi c, vi r] M (fun x M' => M' = M ∧ x = vb (mayB R c r)) := by
 have hm7 := hR.y.m1
 have hn3 := hR.y.n1
 have hcv := hR.y.ct _ (ctAt_mem hc)
 have hlen := asc_len hcv.asc (a := 0) (b := R.y.ramps.length) hcv.r
 have hrl : (ctAt R.y c).ramps.length ≤ 1000000 := by omega
 have hc8 : c ≤ 8 := by omega
 have hn256 : notAt R r < 256 := by have := (hR.w r).2; omega
 have hr3 : r < 3 := by omega
 have hy' := map_at (f := ctP) (ctAt_get hc)
 have hz' := map_at (f := raP) (raAt_get (y := R.y) (r := (r : Int)) (by omega) (by omega))
 rw [Int.toNat_natCast] at hz'
 have hnot := (hR.w r).2
 have e0 : mayB R c r = mayB R c r := rfl
 conv at e0 => rhs; unfold mayB rAt
 refine VC_own' T_ok (f := 43) (fn := Tryz.f43) (by kernel_rfl) rfl Tryz.ntmps43 (by rfl) (by rfl) ?_
 ((repeat refine Ws ?_);refine W_regionE T_ok ?_; intro Kn hKn)
 ((simp (maxSteps := 1000000) only [VL,VM,↓VG,reduceIte,reduceCtorEq,zA,zB,zC,zD,zE,zF,zG,zH,zI,zJ, ry_cells]); rw [hKn];clear hKn Kn;simp only [QV,reduceIte,reduceCtorEq,Nat.reduceEqDiff])
 ((repeat refine Ws ?_);refine W_regionE T_ok ?_; intro Kn hKn)
 ((simp (maxSteps := 1000000) only [VL,VM,↓VG,reduceIte,reduceCtorEq,zA,zB,zC,zD,zE,zF,zG,zH,zI,zJ, ry_1, hy']); rw [hKn];clear hKn Kn;simp only [QV,reduceIte,reduceCtorEq,Nat.reduceEqDiff])
 by_cases h1 : (r : Int) ∈ (ctAt R.y c).ramps
 ·by_cases h2 : (ctAt R.y c).grams ≤ (raAt R.y r).bears
  ·skip
   (repeat refine Ws ?_)
   refine W_drawE T_ok [] (by kernel_rfl) (by kernel_rfl) ?_
   intro Kn hKn
   generalize hi : mkPlan _ = infs
   cbv at hi
   subst hi
   simp (maxSteps := 1000000) only [VL,VM,↓VG,reduceIte,reduceCtorEq,zA,zB,zC,zD,zE,zF,zG,zH,zI,zJ]
   apply call_d (f := 67) (fn := Tryz.f67) (by kernel_rfl) (by rfl)
   ·exact contains_v (ctAt R.y c).ramps r _ hrl
   simp (maxSteps := 1000000) only [VL,VM,↓VG,reduceIte,reduceCtorEq,zA,zB,zC,zD,zE,zF,zG,zH,zI,zJ, h1, ry_0, hz', h2, ry_n hR hr3, hr3]
   apply call_d (f := 68) (fn := Tryz.f68) (by kernel_rfl) (by rfl)
   ·exact has_v (notAt R r) c _ hn256 hc8
   ((simp (maxSteps := 1000000) only [VL,VM,↓VG,reduceIte,reduceCtorEq,zA,zB,zC,zD,zE,zF,zG,zH,zI,zJ]); rw [hKn];clear hKn Kn;simp only [QV,reduceIte,reduceCtorEq,Nat.reduceEqDiff])
   (repeat refine Ws ?_)
   refine W_ret ?_
   try simp only [thenQ, blockQ]
   refine own_ret1 rfl ?_ (by rfl)
   simp only [get_cons, frz, vtup, Nat.reduceEqDiff, if_true, if_false, reduceIte]
   rw [e0]
   simp [h1, h2]
  ·skip
   (repeat refine Ws ?_)
   refine W_drawE T_ok [] (by kernel_rfl) (by kernel_rfl) ?_
   intro Kn hKn
   generalize hi : mkPlan _ = infs
   cbv at hi
   subst hi
   simp (maxSteps := 1000000) only [VL,VM,↓VG,reduceIte,reduceCtorEq,zA,zB,zC,zD,zE,zF,zG,zH,zI,zJ]
   apply call_d (f := 67) (fn := Tryz.f67) (by kernel_rfl) (by rfl)
   ·exact contains_v (ctAt R.y c).ramps r _ hrl
   ((simp (maxSteps := 1000000) only [VL,VM,↓VG,reduceIte,reduceCtorEq,zA,zB,zC,zD,zE,zF,zG,zH,zI,zJ, h1, ry_0, hz', h2]); rw [hKn];clear hKn Kn;simp only [QV,reduceIte,reduceCtorEq,Nat.reduceEqDiff])
   (repeat refine Ws ?_)
   refine W_ret ?_
   try simp only [thenQ, blockQ]
   refine own_ret1 rfl ?_ (by rfl)
   simp only [get_cons, frz, vtup, Nat.reduceEqDiff, if_true, if_false, reduceIte]
   rw [e0]
   simp [h1, h2]
 ·skip
  (repeat refine Ws ?_)
  refine W_drawE T_ok [] (by kernel_rfl) (by kernel_rfl) ?_
  intro Kn hKn
  generalize hi : mkPlan _ = infs
  cbv at hi
  subst hi
  simp (maxSteps := 1000000) only [VL,VM,↓VG,reduceIte,reduceCtorEq,zA,zB,zC,zD,zE,zF,zG,zH,zI,zJ]
  apply call_d (f := 67) (fn := Tryz.f67) (by kernel_rfl) (by rfl)
  ·exact contains_v (ctAt R.y c).ramps r _ hrl
  ((simp (maxSteps := 1000000) only [VL,VM,↓VG,reduceIte,reduceCtorEq,zA,zB,zC,zD,zE,zF,zG,zH,zI,zJ, h1]); rw [hKn];clear hKn Kn;simp only [QV,reduceIte,reduceCtorEq,Nat.reduceEqDiff])
  (repeat refine Ws ?_)
  refine W_ret ?_
  try simp only [thenQ, blockQ]
  refine own_ret1 rfl ?_ (by rfl)
  simp only [get_cons, frz, vtup, Nat.reduceEqDiff, if_true, if_false, reduceIte]
  rw [e0]
  simp [h1]
end Go.Proofs.YtmiiipdgbkipjaaGreatDoor.Vm

/- Dice: what they show is within bounds; they change themselves alone. -/
namespace Go.Proofs.YtmiiipdgbkipjaaGreatDoor
open Go.RowKit
attribute [local go_sem ↓] Go.wp_at_zero Go.wp_at_succ

theorem wrap_u64 (x : Int) : 0 ≤ IntKind.u64.wrap x ∧ IntKind.u64.wrap x < 18446744073709551616 := by
 have h := bounds_u64 (wf_wrap .u64 x)
 exact ⟨h.1, by omega⟩

end Go.Proofs.YtmiiipdgbkipjaaGreatDoor

/- Dice, on values. (Vm) -/
namespace Go.Proofs.YtmiiipdgbkipjaaGreatDoor.Vm
open Go Go.Proofs
abbrev uv (n : Int) : VV := .p (.int .u64 n)
def xorU (a b : Int) : Int := IntKind.u64.wrap (BitVec.ofInt 64 a ^^^ BitVec.ofInt 64 b).toNat
def wrU (a : Int) : Int := IntKind.u64.wrap a
def shU (a y : Int) : Int := a.fdiv (2 ^ (min y.toNat 64))
theorem u_add (t : Nat) (a b : Int) : vbin T .add t (uv a) (uv b) = some (uv (wrU (a + b))) := rfl
theorem u_mul (t : Nat) (a b : Int) : vbin T .mul t (uv a) (uv b) = some (uv (wrU (a * b))) := rfl
theorem u_xor (t : Nat) (a b : Int) : vbin T .xor t (uv a) (uv b) = some (uv (xorU a b)) := rfl
theorem u_shr (t : Nat) (a y : Int) (hy : 0 ≤ y) : vbin T .shr t (uv a) (uv y) = some (uv (shU a y)) := by
 have h0 : ¬ y < 0 := by omega
 have h2 : Go.binOp .shr 0 (.int .u64 a) (.int .u64 y) = .pure (.int .u64 (shU a y)) := by
  show Op.shift .shr .u64 a .u64 y = _
  unfold Op.shift
  rw [if_neg h0]
  rfl
 simp only [vbin, h2, pureOf, Option.map_some, ofValue]
theorem u_rem (t : Nat) (a b : Int) (hb : b ≠ 0) : vbin T .rem t (uv a) (uv b) = some (uv (a.tmod b)) := by
 have h2 : Go.binOp .rem 0 (.int .u64 a) (.int .u64 b) = .pure (.int .u64 (a.tmod b)) := by
  show Op.intDiv .rem .u64 a b = _
  unfold Op.intDiv
  rw [if_neg hb]
  rfl
 simp only [vbin, h2, pureOf, Option.map_some, ofValue]
theorem c_iu (n : Int) : vconvert T 3 62 (vi n) = some (uv (wrU n)) := by
 simp only [vconvert, t_int, t_u64]; rfl
theorem c_ui (n : Int) : vconvert T 62 3 (uv n) = some (vi (IntKind.i64.wrap n)) := by
 simp only [vconvert, t_int, t_u64]; rfl
theorem xorU_range (a b : Int) : 0 ≤ xorU a b ∧ xorU a b < 18446744073709551616 := wrap_u64 _
theorem shU_range {a y : Int} (h : 0 ≤ a) : 0 ≤ shU a y := by
 unfold shU
 have h2 : (0 : Int) ≤ 2 ^ (min y.toNat 64) := Int.pow_nonneg (by decide)
 rw [Int.fdiv_eq_ediv_of_nonneg _ h2]
 exact Int.ediv_nonneg h h2
def DH (H0 : List VObj) (d : Nat) (u : Int) (L : List VObj) : List VObj := (H0 ++ L).set d (.obj [uv u])
section
variable {H0 : List VObj} {d : Nat} (hd : d < H0.length) {u : Int} {L : List VObj}
theorem DH_len : (DH H0 d u L).length = H0.length + L.length := by simp [DH]
include hd
theorem DH_eq : DH H0 d u L = DH H0 d u [] ++ L := by
 unfold DH
 rw [List.set_append_left _ _ hd, List.append_nil]
omit hd in
theorem DH_len0 : (DH H0 d u []).length = H0.length := by rw [DH_len]; simp
theorem DH_get (k : Nat) : (DH H0 d u L)[H0.length + k]? = L[k]? := by
 rw [DH_eq hd]
 have := hget (DH H0 d u []) L k
 rwa [DH_len0] at this
theorem DH_get0 : (DH H0 d u L)[H0.length]? = L[0]? := DH_get hd 0
theorem DH_die : (DH H0 d u L)[d]? = some (.obj [uv u]) := by
 unfold DH
 rw [List.getElem?_set_self (by rw [List.length_append]; omega)]
theorem DH_app (X : List VObj) : DH H0 d u L ++ X = DH H0 d u (L ++ X) := by
 rw [DH_eq hd, DH_eq hd (L := L ++ X), List.append_assoc]
theorem DH_set (k : Nat) (o : VObj) : (DH H0 d u L).set (H0.length + k) o = DH H0 d u (L.set k o) := by
 rw [DH_eq hd, DH_eq hd (L := L.set k o)]
 have := hset (DH H0 d u []) L k o
 rwa [DH_len0] at this
theorem DH_set0 (o : VObj) : (DH H0 d u L).set H0.length o = DH H0 d u (L.set 0 o) := DH_set hd 0 o
omit hd in
theorem DH_setd (v : Int) : (DH H0 d u L).set d (.obj [uv v]) = DH H0 d v L := by
 unfold DH
 rw [List.set_set]
omit hd in
theorem DH_base : DH H0 d u L = DH (H0 ++ L) d u [] := by
 unfold DH
 rw [List.append_nil]
theorem own_retD {f : Nat} {fn : Func} {lg : List (Nat × Nat)} {v : Int} {e : Env} {t : Nat} {X : VV} (h1 : fn.results.toList = [.tmp t]) (hr : frz H0.length (DH H0 d v L) (get e t) = X) (h2 : refs X = []) : ownQ T f fn ⟨DH H0 d u [], lg⟩ (fun r M' => M' = ⟨DH H0 d v [], lg⟩ ∧ r = X) .ret e ⟨DH H0 d v L, lg⟩ [] :=
 ⟨.inr rfl, rfl, ⟨[], by simp, by simp⟩, DH H0 d v [], L, DH_eq hd, by rw [DH_len, DH_len], [get e t], by rw [h1]; rfl, X, by rw [DH_len0]; exact hr, by simp [h2], rfl, rfl⟩
end
def nextU (u : Int) : Int := wrU (u + 11562461410679940143)
def rollV (u : Int) : Int :=
 let x0 := nextU u
 let x1 := wrU (xorU x0 (shU x0 30) * 13787848793156543929)
 let x2 := wrU (xorU x1 (shU x1 27) * 10723151780598845931)
 xorU x2 (shU x2 31)
theorem rollV_range (u : Int) : 0 ≤ rollV u := (xorU_range _ _).1
theorem roll_v {H0 : List VObj} {d : Nat} (hd : d < H0.length) (u : Int) (lg : List (Nat × Nat)) : VC Tryz.prog 27 [.ptr d 0] ⟨DH H0 d u [], lg⟩ (fun r M' => M' = ⟨DH H0 d (nextU u) [], lg⟩ ∧ r = uv (rollV u)) := by
 have g1 := fun u => DH_die hd (u := u) (L := [])
 have g2 := fun u v => DH_setd (H0 := H0) (d := d) (u := u) (L := []) v
 refine VC_own' T_ok (f := 27) (fn := Tryz.f27) (by kernel_rfl) rfl Tryz.ntmps27 (by rfl) (by rfl) ?_
 ((repeat refine Ws ?_);refine Wr ?_)
 simp (maxSteps := 1000000) only [VL,VM,↓VG,reduceIte,reduceCtorEq,zA,zB,zC,zD,zE,zF,zG,zH,zI,zJ]
 ((repeat refine Ws ?_);refine Wr ?_)
 simp (maxSteps := 1000000) only [VL,VM,↓VG,reduceIte,reduceCtorEq,zA,zB,zC,zD,zE,zF,zG,zH,zI,zJ, g1, g2, u_add]
 ((repeat refine Ws ?_);refine Wr ?_)
 simp (maxSteps := 1000000) only [VL,VM,↓VG,reduceIte,reduceCtorEq,zA,zB,zC,zD,zE,zF,zG,zH,zI,zJ, g1]
 ((repeat refine Ws ?_);refine Wr ?_)
 simp (maxSteps := 1000000) only [VL,VM,↓VG,reduceIte,reduceCtorEq,zA,zB,zC,zD,zE,zF,zG,zH,zI,zJ, u_shr, u_xor, u_mul]
 ((repeat refine Ws ?_);refine Wr ?_)
 simp (maxSteps := 1000000) only [VL,VM,↓VG,reduceIte,reduceCtorEq,zA,zB,zC,zD,zE,zF,zG,zH,zI,zJ, u_shr, u_xor, u_mul]
 ((repeat refine Ws ?_);refine Wr ?_)
 simp (maxSteps := 1000000) only [VL,VM,↓VG,reduceIte,reduceCtorEq,zA,zB,zC,zD,zE,zF,zG,zH,zI,zJ, u_shr, u_xor, u_mul]
 (repeat refine Ws ?_)
 refine W_ret ?_
 try simp only [thenQ, blockQ]
 refine own_retD hd rfl ?_ (by rfl)
 simp only [get_cons, frz, vtup, Nat.reduceEqDiff, if_true, if_false, reduceIte]
 rfl
def castF (u n : Int) : Int := if n < 2 then 0 else IntKind.i64.wrap ((shU (rollV u) 2).tmod (wrU n))
def castU (u n : Int) : Int := if n < 2 then u else nextU u
theorem castF_range {u n : Int} (hn : n < 9223372036854775808) : 0 ≤ castF u n ∧ castF u n < max n 1 := by
 unfold castF
 by_cases h : n < 2
 ·rw [if_pos h]; omega
 ·rw [if_neg h]
  have hw : wrU n = n := by
   unfold wrU
   rw [IntKind.wrap_u64]
   omega
  rw [hw]
  have hs := shU_range (y := 2) (rollV_range u)
  have h1 := Int.tmod_nonneg n hs
  have h2 := Int.tmod_lt_of_pos (shU (rollV u) 2) (show 0 < n by omega)
  rw [IntWalk.i64_in _ (by omega)]
  omega
theorem cast_v {H0 : List VObj} {d : Nat} (hd : d < H0.length) (u n : Int) (lg : List (Nat × Nat)) (hn : n < 9223372036854775808) : VC Tryz.prog 24 [.ptr d 0, vi n] ⟨DH H0 d u [], lg⟩ (fun r M' => M' = ⟨DH H0 d (castU u n) [], lg⟩ ∧ r = vi (castF u n)) := by
 refine VC_own' T_ok (f := 24) (fn := Tryz.f24) (by kernel_rfl) rfl Tryz.ntmps24 (by rfl) (by rfl) ?_
 ((repeat refine Ws ?_);refine Wr ?_)
 simp (maxSteps := 1000000) only [VL,VM,↓VG,reduceIte,reduceCtorEq,zA,zB,zC,zD,zE,zF,zG,zH,zI,zJ]
 ((repeat refine Ws ?_);refine Wr ?_)
 by_cases h : n < 2
 ·simp (maxSteps := 1000000) only [VL,VM,↓VG,reduceIte,reduceCtorEq,zA,zB,zC,zD,zE,zF,zG,zH,zI,zJ, h]
  ((repeat refine Ws ?_);refine Wt (by first|rfl|simp only [EV,zF,reduceIte]) ?_)
  ((repeat refine Ws ?_);refine Wr ?_)
  simp (maxSteps := 1000000) only [VL,VM,↓VG,reduceIte,reduceCtorEq,zA,zB,zC,zD,zE,zF,zG,zH,zI,zJ]
  rw [castU, if_pos h, castF, if_pos h]
  (repeat refine Ws ?_)
  refine W_ret ?_
  try simp only [thenQ, blockQ]
  refine own_retD hd rfl ?_ (by rfl)
  simp only [get_cons, frz, vtup, Nat.reduceEqDiff, if_true, if_false, reduceIte]
 ·have hw : ¬ wrU n = 0 := by
   unfold wrU
   rw [IntKind.wrap_u64]
   omega
  simp (maxSteps := 1000000) only [VL,VM,↓VG,reduceIte,reduceCtorEq,zA,zB,zC,zD,zE,zF,zG,zH,zI,zJ, h]
  ((repeat refine Ws ?_);refine Wf (by first|rfl|simp only [EV,zF,reduceIte]) ?_)
  ((repeat refine Ws ?_);refine W_skip ?_)
  simp (maxSteps := 1000000) only [VL,VM,↓VG,reduceIte,reduceCtorEq,zA,zB,zC,zD,zE,zF,zG,zH,zI,zJ]
  rw [castU, if_neg h, castF, if_neg h]
  ((repeat refine Ws ?_);refine Wr ?_)
  simp (maxSteps := 1000000) only [VL,VM,↓VG,reduceIte,reduceCtorEq,zA,zB,zC,zD,zE,zF,zG,zH,zI,zJ]
  apply call_eq (f := 27) (fn := Tryz.f27) (by kernel_rfl) (by rfl)
  ·exact roll_v hd u lg
  simp (maxSteps := 1000000) only [VL,VM,↓VG,reduceIte,reduceCtorEq,zA,zB,zC,zD,zE,zF,zG,zH,zI,zJ, u_shr, c_iu, u_rem, hw, c_ui, ne_eq]
  (repeat refine Ws ?_)
  refine W_ret ?_
  try simp only [thenQ, blockQ]
  refine own_retD hd rfl ?_ (by rfl)
  simp only [get_cons, frz, vtup, Nat.reduceEqDiff, if_true, if_false, reduceIte]
def fromF (u lo hi : Int) : Int := lo + castF u (hi - lo + 1)
def fromU (u lo hi : Int) : Int := castU u (hi - lo + 1)
theorem fromF_range {u lo hi : Int} (h : hi - lo < 1000000000000) : lo ≤ fromF u lo hi ∧ fromF u lo hi ≤ max lo hi := by
 unfold fromF
 have := castF_range (u := u) (n := hi - lo + 1) (by omega)
 omega
theorem from_v {H0 : List VObj} {d : Nat} (hd : d < H0.length) (u lo hi : Int) (lg : List (Nat × Nat)) (h0 : -1000000000000 ≤ lo) (h1 : hi ≤ 1000000000000) (h2 : lo ≤ 1000000000000) (h3 : -1000000000000 ≤ hi) : VC Tryz.prog 25 [.ptr d 0, vi lo, vi hi] ⟨DH H0 d u [], lg⟩ (fun r M' => M' = ⟨DH H0 d (fromU u lo hi) [], lg⟩ ∧ r = vi (fromF u lo hi)) := by
 have k1 : -9223372036854775808 ≤ hi - lo ∧ hi - lo < 9223372036854775808 := by omega
 have k2 : -9223372036854775808 ≤ hi - lo + 1 ∧ hi - lo + 1 < 9223372036854775808 := by omega
 have hc := castF_range (u := u) (n := hi - lo + 1) (by omega)
 have k3 : -9223372036854775808 ≤ lo + castF u (hi - lo + 1) ∧ lo + castF u (hi - lo + 1) < 9223372036854775808 := by omega
 refine VC_own' T_ok (f := 25) (fn := Tryz.f25) (by kernel_rfl) rfl Tryz.ntmps25 (by rfl) (by rfl) ?_
 ((repeat refine Ws ?_);refine Wr ?_)
 simp (maxSteps := 1000000) only [VL,VM,↓VG,reduceIte,reduceCtorEq,zA,zB,zC,zD,zE,zF,zG,zH,zI,zJ]
 ((repeat refine Ws ?_);refine Wr ?_)
 simp (maxSteps := 1000000) only [VL,VM,↓VG,reduceIte,reduceCtorEq,zA,zB,zC,zD,zE,zF,zG,zH,zI,zJ, k1, k2]
 apply call_eq (f := 24) (fn := Tryz.f24) (by kernel_rfl) (by rfl)
 ·exact cast_v hd u (hi - lo + 1) lg (by omega)
 simp (maxSteps := 1000000) only [VL,VM,↓VG,reduceIte,reduceCtorEq,zA,zB,zC,zD,zE,zF,zG,zH,zI,zJ, k3]
 (repeat refine Ws ?_)
 refine W_ret ?_
 try simp only [thenQ, blockQ]
 refine own_retD hd rfl ?_ (by rfl)
 simp only [get_cons, frz, vtup, Nat.reduceEqDiff, if_true, if_false, reduceIte]
 rfl
def oneF (u : Int) (xs : List Int) : Int := xs.getD (castF u xs.length).toNat 0
def oneU (u : Int) (xs : List Int) : Int := castU u xs.length
theorem one_v {H0 : List VObj} {d : Nat} (hd : d < H0.length) (u : Int) (xs : List Int) (lg : List (Nat × Nat)) (h0 : xs.length ≠ 0) (hl : xs.length ≤ 1000000) : VC Tryz.prog 23 [.ptr d 0, intsV xs] ⟨DH H0 d u [], lg⟩ (fun r M' => M' = ⟨DH H0 d (oneU u xs) [], lg⟩ ∧ r = vi (oneF u xs)) := by
 have k1 : ((xs.length : Int) = 0) = False := eq_false (by omega)
 have hc := castF_range (u := u) (n := xs.length) (by omega)
 have hc0 := hc.1
 have hlt : (castF u xs.length).toNat < xs.length := by omega
 have hx : xs[(castF u xs.length).toNat]? = some (oneF u xs) := by simp [oneF, hlt]
 have hx' := map_at (f := intP) hx
 refine VC_own' T_ok (f := 23) (fn := Tryz.f23) (by kernel_rfl) rfl Tryz.ntmps23 (by rfl) (by rfl) ?_
 ((repeat refine Ws ?_);refine Wr ?_)
 simp (maxSteps := 1000000) only [VL,VM,↓VG,reduceIte,reduceCtorEq,zA,zB,zC,zD,zE,zF,zG,zH,zI,zJ]
 ((repeat refine Ws ?_);refine Wr ?_)
 simp (maxSteps := 1000000) only [VL,VM,↓VG,reduceIte,reduceCtorEq,zA,zB,zC,zD,zE,zF,zG,zH,zI,zJ, k1]
 ((repeat refine Ws ?_);refine Wf (by first|rfl|simp only [EV,zF,reduceIte]) ?_)
 ((repeat refine Ws ?_);refine W_skip ?_)
 simp (maxSteps := 1000000) only [VL,VM,↓VG,reduceIte,reduceCtorEq,zA,zB,zC,zD,zE,zF,zG,zH,zI,zJ]
 ((repeat refine Ws ?_);refine Wr ?_)
 simp (maxSteps := 1000000) only [VL,VM,↓VG,reduceIte,reduceCtorEq,zA,zB,zC,zD,zE,zF,zG,zH,zI,zJ]
 apply call_eq (f := 24) (fn := Tryz.f24) (by kernel_rfl) (by rfl)
 ·exact cast_v hd u xs.length lg (by omega)
 simp (maxSteps := 1000000) only [VL,VM,↓VG,reduceIte,reduceCtorEq,zA,zB,zC,zD,zE,zF,zG,zH,zI,zJ, hc0, hx']
 (repeat refine Ws ?_)
 refine W_ret ?_
 try simp only [thenQ, blockQ]
 refine own_retD hd rfl ?_ (by rfl)
 simp only [get_cons, frz, vtup, Nat.reduceEqDiff, if_true, if_false, reduceIte]
end Go.Proofs.YtmiiipdgbkipjaaGreatDoor.Vm

/- Dice, on values, part 2. (Vm) -/
namespace Go.Proofs.YtmiiipdgbkipjaaGreatDoor.Vm
open Go Go.Proofs
section
variable {H0 : List VObj} {d : Nat} (hd : d < H0.length) {u : Int} {L : List VObj}
include hd
theorem own_retDc {f : Nat} {fn : Func} {lg : List (Nat × Nat)} {v : Int} {e : Env} {ex : Exit} {a t : Nat} {X Y : VV} (hex : ex = .normal ∨ ex = .ret) (h1 : fn.results.toList = [.cell a t]) (hr : vload T t (get e a) ⟨DH H0 d v L, lg⟩ = some Y) (hY : frz H0.length (DH H0 d v L) Y = X) (h2 : refs X = []) : ownQ T f fn ⟨DH H0 d u [], lg⟩ (fun r M' => M' = ⟨DH H0 d v [], lg⟩ ∧ r = X) ex e ⟨DH H0 d v L, lg⟩ [] :=
 ⟨hex, rfl, ⟨[], by simp, by simp⟩, DH H0 d v [], L, DH_eq hd, by rw [DH_len, DH_len], [Y], by rw [h1]; simp [vresL, hr], X, by rw [DH_len0]; exact hY, by simp [h2], rfl, rfl⟩
theorem from_c (u lo hi : Int) (lg : List (Nat × Nat)) (h0 : -1000000000000 ≤ lo) (h1 : hi ≤ 1000000000000) (h2 : lo ≤ 1000000000000) (h3 : -1000000000000 ≤ hi) : VC Tryz.prog 25 [.ptr d 0, vi lo, vi hi] ⟨DH H0 d u L, lg⟩ (fun r M' => M' = ⟨DH H0 d (fromU u lo hi) L, lg⟩ ∧ r = vi (fromF u lo hi)) := by
 rw [DH_base, DH_base (u := fromU u lo hi)]
 exact from_v (by rw [List.length_append]; omega) u lo hi lg h0 h1 h2 h3
theorem cast_c (u n : Int) (lg : List (Nat × Nat)) (hn : n < 9223372036854775808) : VC Tryz.prog 24 [.ptr d 0, vi n] ⟨DH H0 d u L, lg⟩ (fun r M' => M' = ⟨DH H0 d (castU u n) L, lg⟩ ∧ r = vi (castF u n)) := by
 rw [DH_base, DH_base (u := castU u n)]
 exact cast_v (by rw [List.length_append]; omega) u n lg hn
theorem one_c (u : Int) (xs : List Int) (lg : List (Nat × Nat)) (h0 : xs.length ≠ 0) (hl : xs.length ≤ 1000000) : VC Tryz.prog 23 [.ptr d 0, intsV xs] ⟨DH H0 d u L, lg⟩ (fun r M' => M' = ⟨DH H0 d (oneU u xs) L, lg⟩ ∧ r = vi (oneF u xs)) := by
 rw [DH_base, DH_base (u := oneU u xs)]
 exact one_v (by rw [List.length_append]; omega) u xs lg h0 hl
end
theorem oneF_mem {u : Int} {xs : List Int} (h0 : xs.length ≠ 0) (hl : xs.length ≤ 1000000) : oneF u xs ∈ xs := by
 have hc := castF_range (u := u) (n := xs.length) (by omega)
 have hlt : (castF u xs.length).toNat < xs.length := by omega
 have hx : xs[(castF u xs.length).toNat]? = some (oneF u xs) := by simp [oneF, hlt]
 exact List.mem_of_getElem? hx
end Go.Proofs.YtmiiipdgbkipjaaGreatDoor.Vm

/- Dice, on values, part 3. (Vm) -/
namespace Go.Proofs.YtmiiipdgbkipjaaGreatDoor.Vm
open Go Go.Proofs
end Go.Proofs.YtmiiipdgbkipjaaGreatDoor.Vm

/- Dice made of numbers, places, loads, on values. (Vm) -/
namespace Go.Proofs.YtmiiipdgbkipjaaGreatDoor.Vm
open Go Go.Proofs
theorem VC_esc {P : Program} {T : Tab} (hT : TabOk P T) {f : Nat} {fn : Func} {c : Code} {nt : Nat} {args : List VV} {M : Mem} {Q : VV → Mem → Prop} (hf : T.fn f = some fn) (hb : fn.body = some c) (hnt : fn.ntmps = nt) (hn : Nat.ble args.length nt = true) (hk : T.keeps f = false)
  (h : WCode P ⟨f, none, nt⟩ c (zipEnv 0 args) M [] (fun ex e M' D => (ex = .normal ∨ ex = .ret) ∧ D = [] ∧ ∃ vs, vresL T e M' fn.results.toList = some vs ∧ (∃ x ∈ refs (frz M.H.length M'.H (vtup vs)), M.H.length ≤ x) ∧ Q (vtup vs) M')) : VC P f args M Q := by
 subst hnt
 refine VC_fn hT hf hb (Nat.le_of_ble_eq_true hn) fun hlg => h.mono ?_
 rintro ex e M' D ⟨hex, rfl, vs, h1, ⟨x, hx, hx2⟩, h3⟩
 have key : retQ T f M.H.length fn Q .ret e M' [] := by
  simp only [retQ, vkill]
  have hM : ({ M' with H := M'.H } : Mem) = M' := rfl
  rw [hM, h1]
  simp only
  have q3 : ((refs (frz M.H.length M'.H (vtup vs))).all (Nat.blt · M.H.length)) = false := by
   rw [List.all_eq_false]
   exact ⟨x, hx, by rw [Nat.blt_eq]; omega⟩
  unfold vfinish
  rw [hk, q3, Bool.and_false]
  exact h3
 rcases hex with rfl | rfl
 ·exact key
 ·exact key
def dieU : List Int → Int := List.foldl (fun u x => nextU (wrU (xorU u (wrU x) * 11507291218515648293))) 2611923443488327891
theorem dieU_take {xs : List Int} {i : Nat} {x : Int} (h : xs[i]? = some x) : dieU (xs.take (i + 1)) = nextU (wrU (xorU (dieU (xs.take i)) (wrU x) * 11507291218515648293)) := by
 rw [List.take_add_one, h]
 simp [dieU, Option.toList]
theorem dieOf_v (xs : List Int) (M : Mem) (hl : xs.length ≤ maxLen) : VC Tryz.prog 8 [intsV xs] M (fun r M' => M' = ⟨DH (M.H ++ [.dead]) M.H.length (dieU xs) [], M.lg⟩ ∧ r = .ptr M.H.length 0) := by
 have hmx : maxLen < 9223372036854775808 := by decide
 have hd : M.H.length < (M.H ++ [VObj.dead]).length := by simp
 refine VC_esc T_ok (f := 8) (fn := Tryz.f8) (by kernel_rfl) rfl Tryz.ntmps8 (by rfl) (by rfl) ?_
 ((repeat refine Ws ?_);refine Wr ?_)
 simp (maxSteps := 1000000) only [VL,VM,↓VG,reduceIte,reduceCtorEq,zA,zB,zC,zD,zE,zF,zG,zH,zI,zJ]
 ((repeat refine Ws ?_);refine Wr ?_)
 simp (maxSteps := 1000000) only [VL,VM,↓VG,reduceIte,reduceCtorEq,zA,zB,zC,zD,zE,zF,zG,zH,zI,zJ]
 rw [show M.H ++ [VObj.obj [uv 2611923443488327891]] = DH (M.H ++ [VObj.dead]) M.H.length (dieU []) [] by simp [DH, dieU]]
 ((repeat refine Ws ?_);refine Wr ?_)
 simp (maxSteps := 1000000) only [VL,VM,↓VG,reduceIte,reduceCtorEq,zA,zB,zC,zD,zE,zF,zG,zH,zI,zJ]
 ((repeat refine Ws ?_);refine W_block ?_; (repeat refine Ws ?_)); refine W_loopS (fun i : Nat => [(0, intsV xs), (3, .ptr M.H.length 0), (4, vi i)]) (fun i => ⟨DH (M.H ++ [VObj.dead]) M.H.length (dieU (xs.take i)) [], M.lg⟩) (fun i => xs.length - i) (fun i => i ≤ xs.length) 0 (Nat.zero_le _) ⟨rfl, rfl, rfl, trivial⟩ rfl ?_
 rintro i hi
 ((repeat refine Ws ?_);refine Wr ?_)
 rcases Nat.lt_or_ge i xs.length with hlt | hge
 ·have k1 : -9223372036854775808 ≤ (i : Int) + 1 ∧ (i : Int) + 1 < 9223372036854775808 := by omega
  have k2 : ((i : Int) < (xs.length : Int)) = True := eq_true (by omega)
  have hx : xs[i]? = some xs[i] := List.getElem?_eq_getElem hlt
  have hx' := map_at (f := intP) hx
  generalize hc : xs[i] = x at hx hx'
  simp (maxSteps := 1000000) only [VL,VM,↓VG,reduceIte,reduceCtorEq,zA,zB,zC,zD,zE,zF,zG,zH,zI,zJ, k2]
  ((repeat refine Ws ?_);refine Wt (by first|rfl|simp only [EV,zF,reduceIte]) ?_)
  ((repeat refine Ws ?_);refine W_skip ?_)
  simp (maxSteps := 1000000) only [VL,VM,↓VG,reduceIte,reduceCtorEq,zA,zB,zC,zD,zE,zF,zG,zH,zI,zJ]
  ((repeat refine Ws ?_);refine W_block ?_)
  (repeat refine Ws ?_)
  refine W_drawP T_ok [] (by kernel_rfl) (by kernel_rfl) ?_
  generalize hi : mkPlan _ = infs
  cbv at hi
  subst hi
  simp (maxSteps := 1000000) only [VL,VM,↓VG,reduceIte,reduceCtorEq,zA,zB,zC,zD,zE,zF,zG,zH,zI,zJ, DH_die hd, DH_setd, hx', c_iu, u_xor, u_mul]
  ((repeat refine Ws ?_);refine Wr ?_)
  simp (maxSteps := 1000000) only [VL,VM,↓VG,reduceIte,reduceCtorEq,zA,zB,zC,zD,zE,zF,zG,zH,zI,zJ]
  apply call_eq (f := 27) (fn := Tryz.f27) (by kernel_rfl) (by rfl)
  ·exact roll_v hd (wrU (xorU (dieU (xs.take i)) (wrU x) * 11507291218515648293)) M.lg
  simp (maxSteps := 1000000) only [VL,VM,↓VG,reduceIte,reduceCtorEq,zA,zB,zC,zD,zE,zF,zG,zH,zI,zJ]
  ((repeat refine Ws ?_);refine Wr ?_)
  simp (maxSteps := 1000000) only [VL,VM,↓VG,reduceIte,reduceCtorEq,zA,zB,zC,zD,zE,zF,zG,zH,zI,zJ, k1]
  refine LoopK.mk (i + 1) (by omega) (by omega) ⟨rfl, rfl, rfl, trivial⟩ ?_
  simp only [dieU_take hx]
 ·have k2 : ((i : Int) < (xs.length : Int)) = False := eq_false (by omega)
  obtain rfl : i = xs.length := by omega
  rw [List.take_length]
  simp (maxSteps := 1000000) only [VL,VM,↓VG,reduceIte,reduceCtorEq,zA,zB,zC,zD,zE,zF,zG,zH,zI,zJ, k2]
  ((repeat refine Ws ?_);refine Wf (by first|rfl|simp only [EV,zF,reduceIte]) ?_)
  ((repeat refine Ws ?_);refine W_exit ?_)
  simp (maxSteps := 1000000) only [VL,VM,↓VG,reduceIte,reduceCtorEq,zA,zB,zC,zD,zE,zF,zG,zH,zI,zJ]
  ((repeat refine Ws ?_);refine Wr ?_)
  simp (maxSteps := 1000000) only [VL,VM,↓VG,reduceIte,reduceCtorEq,zA,zB,zC,zD,zE,zF,zG,zH,zI,zJ]
  (repeat refine Ws ?_)
  refine W_ret ⟨.inr rfl, rfl, [.ptr M.H.length 0], rfl, ⟨M.H.length, by simp [vtup, frz, refs], Nat.le_refl _⟩, rfl, rfl⟩
end Go.Proofs.YtmiiipdgbkipjaaGreatDoor.Vm

/- A call whose result leads to an object of plain data: the object is read only from then on. (Vm) -/
namespace Go.Proofs.YtmiiipdgbkipjaaGreatDoor.Vm
open Go Go.Proofs
theorem im_take {K : Nat → Option Nat} {H : List VObj} {n b o : Nat} (h : Im K H b o) : Im K (H.take n) b o := fun i ob hi hk => h i ob (by
 rw [List.getElem?_take] at hi
 split at hi
 ·exact hi
 ·cases hi) hk
theorem ptr_ip {G : Ghost} {w : World} {K : Nat → Option Nat} {M : Mem} (hI : Inv G w K M) {n id : Nat} {cs : List PV} {v : Value} (hn : n ≤ id) (ho : M.H[id]? = some (.obj (cs.map .p))) (h : RepV w K M.H v (.ptr id 0)) : RepV w K (M.H.take n) v (.ip cs) := by
 cases h with
 | ptr _ _ b hK hnc =>
  obtain ⟨vs, t, q1, q2, q3⟩ := hI.obj id _ ho _ hK
  rw [List.length_map] at q2
  have hil := (List.getElem?_eq_some_iff.1 ho).1
  have him : ∀ o, Im K (M.H.take n) b o := fun o i ob hi hKi => by
   rw [List.getElem?_take] at hi
   split at hi
   ·rename_i hlt
    by_cases hg : ob = .gone
    ·subst hg; exact .inl trivial
    ·have hi' := (List.getElem?_eq_some_iff.1 hi).1
     have := hI.inj i id b hi' hil (by rw [hi]; simpa using hg) (by rw [ho]; simp) hKi hK
     omega
   ·cases hi
  have hcell : ∀ j u, cs[j]? = some u → ∃ x, vs[j]? = some x ∧ RepP w (Im K M.H) x u := fun j u hu => by
   have hj := (List.getElem?_eq_some_iff.1 hu).1
   have hv := Array.getElem?_eq_getElem (show j < vs.size by omega)
   generalize vs[j] = x at hv
   refine ⟨x, hv, ?_⟩
   obtain ⟨r1, _⟩ := q3 j x (.p u) hv (by rw [List.getElem?_map, hu]; rfl)
   cases r1 with
   | p _ _ h => exact h
  refine .ip cs b 0 (fun j => vs.getD j undef) (fun j u hu => him _) (fun j u hu => ?_) (fun j u hu => ?_)
  ·obtain ⟨x, hx, _⟩ := hcell j u hu
   simp only [World.cell?, q1, Nat.zero_add]
   simp [hx]
  ·obtain ⟨x, hx, hp⟩ := hcell j u hu
   have : vs.getD j undef = x := by simp [hx]
   rw [this]
   exact hp.ext fun b o _ hi => ⟨im_take hi, rfl⟩
theorem VC_cutP {P : Program} {f : Nat} {args : List VV} {M : Mem} {Q Q' : VV → Mem → Prop} (h : VC P f args M Q) (hq : (∀ e ∈ M.lg, e.1 < M.H.length ∧ e.2 < M.H.length) → ∀ r M', Q r M' → ∃ id cs lg', r = .ptr id 0 ∧ M.H.length ≤ id ∧ M'.H[id]? = some (.obj (cs.map .p)) ∧ (∀ e ∈ M'.lg, e.1 < M.H.length → e.2 < M.H.length ∧ e ∈ lg') ∧ (∀ e ∈ lg', e.1 < M.H.length ∧ e.2 < M.H.length) ∧ Q' (.ip cs) ⟨M'.H.take M.H.length, lg'⟩) : VC P f args M Q' := by
 intro G w K rargs hI ha
 refine (h G w K rargs hI ha).mono ?_
 intro e w'
 rintro ⟨rv, r, K', M', he, hQ, h1, h2, h3, h4⟩
 obtain ⟨id, cs, lg', rfl, g1, g2, g3, g4, g5⟩ := hq hI.lg r M' hQ
 refine ⟨rv, _, K', _, he, g5, ptr_ip h4 g1 g2 h1, fun q hq => by simp [refs] at hq, ?_, inv_take h4 (by have := (List.getElem?_eq_some_iff.1 g2).1; omega) g3 g4⟩
 refine h3.keep (keep_take _) (Nat.le_refl _) fun i hi => ⟨?_, rfl, fun _ _ _ => rfl⟩
 rw [List.getElem?_take_of_lt (by omega)]
theorem VC_ipq {f : Nat} {fn : Func} {c : Code} {nt : Nat} {args : List VV} {M : Mem} {cs : List PV} (hf : T.fn f = some fn) (hb : fn.body = some c) (hnt : fn.ntmps = nt) (hn : Nat.ble args.length nt = true) (hk : T.keeps f = false)
  (h : WCode Tryz.prog ⟨f, none, nt⟩ c (zipEnv 0 args) M [] (fun ex e M' D => (ex = .normal ∨ ex = .ret) ∧ D = [] ∧ ∃ id L, vresL T e M' fn.results.toList = some [.ptr id 0] ∧ M.H.length ≤ id ∧ M'.H = M.H ++ L ∧ M'.lg = M.lg ∧ M'.H[id]? = some (.obj (cs.map .p)))) : VC Tryz.prog f args M (fun r M' => M' = M ∧ r = .ip cs) := by
 refine VC_cutP (Q := fun r M' => ∃ id L, r = .ptr id 0 ∧ M.H.length ≤ id ∧ M'.H = M.H ++ L ∧ M'.lg = M.lg ∧ M'.H[id]? = some (.obj (cs.map .p))) (VC_esc T_ok hf hb hnt hn hk (h.mono ?_)) ?_
 ·rintro ex e M' D ⟨h1, h2, id, L, h3, h4, h5, h6, h7⟩
  exact ⟨h1, h2, _, h3, ⟨id, by simp [vtup, frz, refs], h4⟩, id, L, rfl, h4, h5, h6, h7⟩
 ·rintro hlg r M' ⟨id, L, rfl, h4, h5, h6, h7⟩
  refine ⟨id, cs, M.lg, rfl, h4, h7, fun e he h => ?_, hlg, ?_, rfl⟩
  ·rw [h6] at he
   exact ⟨(hlg e he).2, he⟩
  ·rw [h5]; simp
end Go.Proofs.YtmiiipdgbkipjaaGreatDoor.Vm

/- A scope through which the run goes without a jump. (Vm) -/
namespace Go.Proofs.YtmiiipdgbkipjaaGreatDoor.Vm
open Go Go.Proofs
section
variable {P : Program} {b : Frame} {a : Act} {k : List Item} {cs : List Frame} {w : World}
theorem stepR_scope {c : Code} : step P (lone (b.atR a (.code (.scope c) :: k)) cs w) = .next (lone (b.atR a (.code c :: .inScope c :: k)) cs w) :=
 step_lone_go (by simp [stepG, stepG.exec, Frame.atR])
theorem stepR_inScope {c : Code} : step P (lone (b.atR a (.inScope c :: k)) cs w) = .next (lone (b.atR a k) cs w) :=
 step_lone_go (by simp [stepG, stepG.exec, Frame.atR])
end
theorem wpIn_scope {F : Fence} {n : Nat} {P : Program} {Q : Exit → Act → World → Prop} {a : Act} {w : World} {c : Code} (hQ : ∀ l a w, ¬ Q (.goto l) a w) (h : c.wpIn F n P Q a w) : (Code.scope c).wpIn F n P Q a w := by
 intro b k cs hro hb hr
 have h0 : (lone (b.atR a (.code (.scope c) :: k)) cs w).fenced P F := fenced_calm hb hr rfl
 obtain ⟨e, a₁, w₁, hq, harr⟩ := h b (.inScope c :: k) cs hro hb hr
 cases e with
 | normal => exact ⟨.normal, a₁, w₁, hq, .head h0 stepR_scope (StepsIn.trans harr (.one (fenced_calm hb hr rfl) stepR_inScope))⟩
 | exit id =>
  have hx : exitTo id (.inScope c :: k) = exitTo id k := by simp [exitTo]
  exact ⟨.exit id, a₁, w₁, hq, fun k' hk => .head h0 stepR_scope (harr.1 k' (by rw [hx]; exact hk)),
   fun hr' hk => let ⟨k₁, h1, h2⟩ := harr.2 hr' (by rw [hx]; exact hk); ⟨k₁, h1, .head h0 stepR_scope h2⟩⟩
 | goto l => exact absurd hq (hQ l _ _)
 | ret => exact ⟨_, a₁, w₁, hq, .of_steps (.one h0 stepR_scope) harr⟩
 | panic ch => exact ⟨_, a₁, w₁, hq, .of_steps (.one h0 stepR_scope) harr⟩
 | outgrown => exact ⟨_, a₁, w₁, hq, .of_steps (.one h0 stepR_scope) harr⟩
theorem W_scope {P : Program} {cx : Cx} {e : Env} {M : Mem} {D : List Nat} {Q : PQ} {c : Code} (h : WCode P cx c e M D Q) : WCode P cx (.scope c) e M D Q := fun G w K a hs =>
 wpIn_scope (fun l a w ⟨_, _, _, _, _, hx, _⟩ => hx.elim) (h G w K a hs)
theorem W_then {P : Program} {cx : Cx} {e : Env} {M : Mem} {D : List Nat} {Q : PQ} {c : Code} {Kn : Env → Mem → List Nat → Prop} (E : Env) (M1 : Mem) (h1 : WCode P cx c e M D (fun ex e' M' D' => ex = .normal ∧ D' = D ∧ M' = M1 ∧ Sub E e')) (h2 : WCode P cx .skip E M1 D (fun _ _ _ _ => True) → ∀ e', Sub E e' → Kn e' M1 D) : WCode P cx c e M D (thenQ Kn Q) :=
 h1.mono (by rintro ex e' M' D' ⟨rfl, rfl, rfl, hS⟩; exact h2 (W_skip trivial) e' hS)
theorem W_thenC {P : Program} {cx : Cx} {e : Env} {M : Mem} {D : List Nat} {Q Q' : PQ} {c c' : Code} (E : Env) (M1 : Mem) (h1 : WCode P cx c e M D (fun ex e' M' D' => ex = .normal ∧ D' = D ∧ M' = M1 ∧ Sub E e')) (h2 : WCode P cx c' E M1 D Q') : WCode P cx c e M D (thenQ (fun e' M' D' => WCode P cx c' e' M' D' Q') Q) :=
 W_then E M1 h1 fun _ _ hS => h2.weak hS.ok
end Go.Proofs.YtmiiipdgbkipjaaGreatDoor.Vm
