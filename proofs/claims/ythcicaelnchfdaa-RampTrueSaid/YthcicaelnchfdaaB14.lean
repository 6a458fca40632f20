/- A part of the proofs about the chapter of the ramps; it states no condition of its own. -/
import Derived.Test.YthcicaelnchfdaaB13
import Derived.Test.YthcicaelnchfdaaRows
import Derived.WalkKit
import Derived.OpenShut
import Derived.Deep.RegionHeld3
import Derived.Deep.DrawnRows
import Derived.StillTailTactics
set_option linter.unusedVariables false
set_option linter.unusedSimpArgs false
open Int renaming reduceLE → zA, reduceLT → zB, reduceToNat → zC, reduceNeg → zD
open Nat renaming reduceLT → zE, reduceEqDiff → zF, reduceAdd → zG, reduceSub → zH, reduceMul → zI, reduceLeDiff → zJ
/- Dice: what they show is within bounds; they change themselves alone. -/
namespace Go.Proofs.Ythcicaelnchfdaa
open Go.RowKit
attribute [local go_sem ↓] Go.wp_at_zero Go.wp_at_succ

theorem wrap_u64 (x : Int) : 0 ≤ IntKind.u64.wrap x ∧ IntKind.u64.wrap x < 18446744073709551616 := by
 have h := bounds_u64 (wf_wrap .u64 x)
 exact ⟨h.1, by omega⟩

end Go.Proofs.Ythcicaelnchfdaa

/- Dice, on values. (Vm) -/
namespace Go.Proofs.Ythcicaelnchfdaa.Vm
open Go Go.Proofs
abbrev uv (n : Int) : VV := .p (.int .u64 n)
def xorU (a b : Int) : Int := IntKind.u64.wrap (BitVec.ofInt 64 a ^^^ BitVec.ofInt 64 b).toNat
def wrU (a : Int) : Int := IntKind.u64.wrap a
def shU (a y : Int) : Int := a.fdiv (2 ^ (min y.toNat 64))
theorem u_add (t : Nat) (a b : Int) : vbin T .add t (uv a) (uv b) = some (uv (wrU (a + b))) := rfl
theorem u_mul (t : Nat) (a b : Int) : vbin T .mul t (uv a) (uv b) = some (uv (wrU (a * b))) := rfl
theorem u_xor (t : Nat) (a b : Int) : vbin T .xor t (uv a) (uv b) = some (uv (xorU a b)) := rfl
theorem u_shr (t : Nat) (a y : Int) (hy : 0 ≤ y) : vbin T .shr t (uv a) (uv y) = some (uv (shU a y)) := by
 have h0 : ¬ y < 0 := by omega
 have h2 : Go.binOp .shr 0 (.int .u64 a) (.int .u64 y) = .pure (.int .u64 (shU a y)) := by
  show Op.shift .shr .u64 a .u64 y = _
  unfold Op.shift
  rw [if_neg h0]
  rfl
 simp only [vbin, h2, pureOf, Option.map_some, ofValue]
theorem u_rem (t : Nat) (a b : Int) (hb : b ≠ 0) : vbin T .rem t (uv a) (uv b) = some (uv (a.tmod b)) := by
 have h2 : Go.binOp .rem 0 (.int .u64 a) (.int .u64 b) = .pure (.int .u64 (a.tmod b)) := by
  show Op.intDiv .rem .u64 a b = _
  unfold Op.intDiv
  rw [if_neg hb]
  rfl
 simp only [vbin, h2, pureOf, Option.map_some, ofValue]
theorem c_iu (n : Int) : vconvert T 3 87 (vi n) = some (uv (wrU n)) := by
 simp only [vconvert, t_int, t_u64]; rfl
theorem c_ui (n : Int) : vconvert T 87 3 (uv n) = some (vi (IntKind.i64.wrap n)) := by
 simp only [vconvert, t_int, t_u64]; rfl
theorem xorU_range (a b : Int) : 0 ≤ xorU a b ∧ xorU a b < 18446744073709551616 := wrap_u64 _
theorem shU_range {a y : Int} (h : 0 ≤ a) : 0 ≤ shU a y := by
 unfold shU
 have h2 : (0 : Int) ≤ 2 ^ (min y.toNat 64) := Int.pow_nonneg (by decide)
 rw [Int.fdiv_eq_ediv_of_nonneg _ h2]
 exact Int.ediv_nonneg h h2
def DH (H0 : List VObj) (d : Nat) (u : Int) (L : List VObj) : List VObj := (H0 ++ L).set d (.obj [uv u])
section
variable {H0 : List VObj} {d : Nat} (hd : d < H0.length) {u : Int} {L : List VObj}
theorem DH_len : (DH H0 d u L).length = H0.length + L.length := by simp [DH]
include hd
theorem DH_eq : DH H0 d u L = DH H0 d u [] ++ L := by
 unfold DH
 rw [List.set_append_left _ _ hd, List.append_nil]
omit hd in
theorem DH_len0 : (DH H0 d u []).length = H0.length := by rw [DH_len]; simp
theorem DH_get (k : Nat) : (DH H0 d u L)[H0.length + k]? = L[k]? := by
 rw [DH_eq hd]
 have := hget (DH H0 d u []) L k
 rwa [DH_len0] at this
theorem DH_get0 : (DH H0 d u L)[H0.length]? = L[0]? := DH_get hd 0
theorem DH_die : (DH H0 d u L)[d]? = some (.obj [uv u]) := by
 unfold DH
 rw [List.getElem?_set_self (by rw [List.length_append]; omega)]
theorem DH_app (X : List VObj) : DH H0 d u L ++ X = DH H0 d u (L ++ X) := by
 rw [DH_eq hd, DH_eq hd (L := L ++ X), List.append_assoc]
theorem DH_set (k : Nat) (o : VObj) : (DH H0 d u L).set (H0.length + k) o = DH H0 d u (L.set k o) := by
 rw [DH_eq hd, DH_eq hd (L := L.set k o)]
 have := hset (DH H0 d u []) L k o
 rwa [DH_len0] at this
theorem DH_set0 (o : VObj) : (DH H0 d u L).set H0.length o = DH H0 d u (L.set 0 o) := DH_set hd 0 o
omit hd in
theorem DH_setd (v : Int) : (DH H0 d u L).set d (.obj [uv v]) = DH H0 d v L := by
 unfold DH
 rw [List.set_set]
omit hd in
theorem DH_base : DH H0 d u L = DH (H0 ++ L) d u [] := by
 unfold DH
 rw [List.append_nil]
theorem own_retD {f : Nat} {fn : Func} {lg : List (Nat × Nat)} {v : Int} {e : Env} {t : Nat} {X : VV} (h1 : fn.results.toList = [.tmp t]) (hr : frz H0.length (DH H0 d v L) (get e t) = X) (h2 : refs X = []) : ownQ T f fn ⟨DH H0 d u [], lg⟩ (fun r M' => M' = ⟨DH H0 d v [], lg⟩ ∧ r = X) .ret e ⟨DH H0 d v L, lg⟩ [] :=
 ⟨.inr rfl, rfl, ⟨[], by simp, by simp⟩, DH H0 d v [], L, DH_eq hd, by rw [DH_len, DH_len], [get e t], by rw [h1]; rfl, X, by rw [DH_len0]; exact hr, by simp [h2], rfl, rfl⟩
end
def nextU (u : Int) : Int := wrU (u + 11562461410679940143)
def rollV (u : Int) : Int :=
 let x0 := nextU u
 let x1 := wrU (xorU x0 (shU x0 30) * 13787848793156543929)
 let x2 := wrU (xorU x1 (shU x1 27) * 10723151780598845931)
 xorU x2 (shU x2 31)
theorem rollV_range (u : Int) : 0 ≤ rollV u := (xorU_range _ _).1
theorem roll_v {H0 : List VObj} {d : Nat} (hd : d < H0.length) (u : Int) (lg : List (Nat × Nat)) : VC Try.prog 59 [.ptr d 0] ⟨DH H0 d u [], lg⟩ (fun r M' => M' = ⟨DH H0 d (nextU u) [], lg⟩ ∧ r = uv (rollV u)) := by
 have g1 := fun u => DH_die hd (u := u) (L := [])
 have g2 := fun u v => DH_setd (H0 := H0) (d := d) (u := u) (L := []) v
 refine VC_own' T_ok (f := 59) (fn := Try.f59) (by kernel_rfl) rfl Try.ntmps59 (by rfl) (by rfl) ?_
 ((repeat refine Ws ?_);refine Wr ?_)
 simp (maxSteps := 1000000) only [VL,VM,↓VG,reduceIte,reduceCtorEq,zA,zB,zC,zD,zE,zF,zG,zH,zI,zJ]
 ((repeat refine Ws ?_);refine Wr ?_)
 simp (maxSteps := 1000000) only [VL,VM,↓VG,reduceIte,reduceCtorEq,zA,zB,zC,zD,zE,zF,zG,zH,zI,zJ, g1, g2, u_add]
 ((repeat refine Ws ?_);refine Wr ?_)
 simp (maxSteps := 1000000) only [VL,VM,↓VG,reduceIte,reduceCtorEq,zA,zB,zC,zD,zE,zF,zG,zH,zI,zJ, g1]
 ((repeat refine Ws ?_);refine Wr ?_)
 simp (maxSteps := 1000000) only [VL,VM,↓VG,reduceIte,reduceCtorEq,zA,zB,zC,zD,zE,zF,zG,zH,zI,zJ, u_shr, u_xor, u_mul]
 ((repeat refine Ws ?_);refine Wr ?_)
 simp (maxSteps := 1000000) only [VL,VM,↓VG,reduceIte,reduceCtorEq,zA,zB,zC,zD,zE,zF,zG,zH,zI,zJ, u_shr, u_xor, u_mul]
 ((repeat refine Ws ?_);refine Wr ?_)
 simp (maxSteps := 1000000) only [VL,VM,↓VG,reduceIte,reduceCtorEq,zA,zB,zC,zD,zE,zF,zG,zH,zI,zJ, u_shr, u_xor, u_mul]
 (repeat refine Ws ?_)
 refine W_ret ?_
 try simp only [thenQ, blockQ]
 refine own_retD hd rfl ?_ (by rfl)
 simp only [get_cons, frz, vtup, Nat.reduceEqDiff, if_true, if_false, reduceIte]
 rfl
def castF (u n : Int) : Int := if n < 2 then 0 else IntKind.i64.wrap ((shU (rollV u) 2).tmod (wrU n))
def castU (u n : Int) : Int := if n < 2 then u else nextU u
theorem castF_range {u n : Int} (hn : n < 9223372036854775808) : 0 ≤ castF u n ∧ castF u n < max n 1 := by
 unfold castF
 by_cases h : n < 2
 ·rw [if_pos h]; omega
 ·rw [if_neg h]
  have hw : wrU n = n := by
   unfold wrU
   rw [IntKind.wrap_u64]
   omega
  rw [hw]
  have hs := shU_range (y := 2) (rollV_range u)
  have h1 := Int.tmod_nonneg n hs
  have h2 := Int.tmod_lt_of_pos (shU (rollV u) 2) (show 0 < n by omega)
  rw [IntWalk.i64_in _ (by omega)]
  omega
theorem cast_v {H0 : List VObj} {d : Nat} (hd : d < H0.length) (u n : Int) (lg : List (Nat × Nat)) (hn : n < 9223372036854775808) : VC Try.prog 33 [.ptr d 0, vi n] ⟨DH H0 d u [], lg⟩ (fun r M' => M' = ⟨DH H0 d (castU u n) [], lg⟩ ∧ r = vi (castF u n)) := by
 refine VC_own' T_ok (f := 33) (fn := Try.f33) (by kernel_rfl) rfl Try.ntmps33 (by rfl) (by rfl) ?_
 ((repeat refine Ws ?_);refine Wr ?_)
 simp (maxSteps := 1000000) only [VL,VM,↓VG,reduceIte,reduceCtorEq,zA,zB,zC,zD,zE,zF,zG,zH,zI,zJ]
 ((repeat refine Ws ?_);refine Wr ?_)
 by_cases h : n < 2
 ·simp (maxSteps := 1000000) only [VL,VM,↓VG,reduceIte,reduceCtorEq,zA,zB,zC,zD,zE,zF,zG,zH,zI,zJ, h]
  ((repeat refine Ws ?_);refine Wt (by first|rfl|simp only [EV,zF,reduceIte]) ?_)
  ((repeat refine Ws ?_);refine Wr ?_)
  simp (maxSteps := 1000000) only [VL,VM,↓VG,reduceIte,reduceCtorEq,zA,zB,zC,zD,zE,zF,zG,zH,zI,zJ]
  rw [castU, if_pos h, castF, if_pos h]
  (repeat refine Ws ?_)
  refine W_ret ?_
  try simp only [thenQ, blockQ]
  refine own_retD hd rfl ?_ (by rfl)
  simp only [get_cons, frz, vtup, Nat.reduceEqDiff, if_true, if_false, reduceIte]
 ·have hw : ¬ wrU n = 0 := by
   unfold wrU
   rw [IntKind.wrap_u64]
   omega
  simp (maxSteps := 1000000) only [VL,VM,↓VG,reduceIte,reduceCtorEq,zA,zB,zC,zD,zE,zF,zG,zH,zI,zJ, h]
  ((repeat refine Ws ?_);refine Wf (by first|rfl|simp only [EV,zF,reduceIte]) ?_)
  ((repeat refine Ws ?_);refine W_skip ?_)
  simp (maxSteps := 1000000) only [VL,VM,↓VG,reduceIte,reduceCtorEq,zA,zB,zC,zD,zE,zF,zG,zH,zI,zJ]
  rw [castU, if_neg h, castF, if_neg h]
  ((repeat refine Ws ?_);refine Wr ?_)
  simp (maxSteps := 1000000) only [VL,VM,↓VG,reduceIte,reduceCtorEq,zA,zB,zC,zD,zE,zF,zG,zH,zI,zJ]
  apply call_eq (f := 59) (fn := Try.f59) (by kernel_rfl) (by rfl)
  ·exact roll_v hd u lg
  simp (maxSteps := 1000000) only [VL,VM,↓VG,reduceIte,reduceCtorEq,zA,zB,zC,zD,zE,zF,zG,zH,zI,zJ, u_shr, c_iu, u_rem, hw, c_ui, ne_eq]
  (repeat refine Ws ?_)
  refine W_ret ?_
  try simp only [thenQ, blockQ]
  refine own_retD hd rfl ?_ (by rfl)
  simp only [get_cons, frz, vtup, Nat.reduceEqDiff, if_true, if_false, reduceIte]
def fromF (u lo hi : Int) : Int := lo + castF u (hi - lo + 1)
def fromU (u lo hi : Int) : Int := castU u (hi - lo + 1)
theorem fromF_range {u lo hi : Int} (h : hi - lo < 1000000000000) : lo ≤ fromF u lo hi ∧ fromF u lo hi ≤ max lo hi := by
 unfold fromF
 have := castF_range (u := u) (n := hi - lo + 1) (by omega)
 omega
theorem from_v {H0 : List VObj} {d : Nat} (hd : d < H0.length) (u lo hi : Int) (lg : List (Nat × Nat)) (h0 : -1000000000000 ≤ lo) (h1 : hi ≤ 1000000000000) (h2 : lo ≤ 1000000000000) (h3 : -1000000000000 ≤ hi) : VC Try.prog 32 [.ptr d 0, vi lo, vi hi] ⟨DH H0 d u [], lg⟩ (fun r M' => M' = ⟨DH H0 d (fromU u lo hi) [], lg⟩ ∧ r = vi (fromF u lo hi)) := by
 have k1 : -9223372036854775808 ≤ hi - lo ∧ hi - lo < 9223372036854775808 := by omega
 have k2 : -9223372036854775808 ≤ hi - lo + 1 ∧ hi - lo + 1 < 9223372036854775808 := by omega
 have hc := castF_range (u := u) (n := hi - lo + 1) (by omega)
 have k3 : -9223372036854775808 ≤ lo + castF u (hi - lo + 1) ∧ lo + castF u (hi - lo + 1) < 9223372036854775808 := by omega
 refine VC_own' T_ok (f := 32) (fn := Try.f32) (by kernel_rfl) rfl Try.ntmps32 (by rfl) (by rfl) ?_
 ((repeat refine Ws ?_);refine Wr ?_)
 simp (maxSteps := 1000000) only [VL,VM,↓VG,reduceIte,reduceCtorEq,zA,zB,zC,zD,zE,zF,zG,zH,zI,zJ]
 ((repeat refine Ws ?_);refine Wr ?_)
 simp (maxSteps := 1000000) only [VL,VM,↓VG,reduceIte,reduceCtorEq,zA,zB,zC,zD,zE,zF,zG,zH,zI,zJ, k1, k2]
 apply call_eq (f := 33) (fn := Try.f33) (by kernel_rfl) (by rfl)
 ·exact cast_v hd u (hi - lo + 1) lg (by omega)
 simp (maxSteps := 1000000) only [VL,VM,↓VG,reduceIte,reduceCtorEq,zA,zB,zC,zD,zE,zF,zG,zH,zI,zJ, k3]
 (repeat refine Ws ?_)
 refine W_ret ?_
 try simp only [thenQ, blockQ]
 refine own_retD hd rfl ?_ (by rfl)
 simp only [get_cons, frz, vtup, Nat.reduceEqDiff, if_true, if_false, reduceIte]
 rfl
def onceF (u n : Int) : Bool := decide (castF u n = 0)
theorem once_v {H0 : List VObj} {d : Nat} (hd : d < H0.length) (u n : Int) (lg : List (Nat × Nat)) (hn : n < 9223372036854775808) : VC Try.prog 43 [.ptr d 0, vi n] ⟨DH H0 d u [], lg⟩ (fun r M' => M' = ⟨DH H0 d (castU u n) [], lg⟩ ∧ r = vb (onceF u n)) := by
 refine VC_own' T_ok (f := 43) (fn := Try.f43) (by kernel_rfl) rfl Try.ntmps43 (by rfl) (by rfl) ?_
 ((repeat refine Ws ?_);refine Wr ?_)
 simp (maxSteps := 1000000) only [VL,VM,↓VG,reduceIte,reduceCtorEq,zA,zB,zC,zD,zE,zF,zG,zH,zI,zJ]
 ((repeat refine Ws ?_);refine Wr ?_)
 simp (maxSteps := 1000000) only [VL,VM,↓VG,reduceIte,reduceCtorEq,zA,zB,zC,zD,zE,zF,zG,zH,zI,zJ]
 apply call_eq (f := 33) (fn := Try.f33) (by kernel_rfl) (by rfl)
 ·exact cast_v hd u n lg hn
 simp (maxSteps := 1000000) only [VL,VM,↓VG,reduceIte,reduceCtorEq,zA,zB,zC,zD,zE,zF,zG,zH,zI,zJ]
 (repeat refine Ws ?_)
 refine W_ret ?_
 try simp only [thenQ, blockQ]
 refine own_retD hd rfl ?_ (by rfl)
 simp only [get_cons, frz, vtup, Nat.reduceEqDiff, if_true, if_false, reduceIte]
 rfl
def oneF (u : Int) (xs : List Int) : Int := xs.getD (castF u xs.length).toNat 0
def oneU (u : Int) (xs : List Int) : Int := castU u xs.length
theorem one_v {H0 : List VObj} {d : Nat} (hd : d < H0.length) (u : Int) (xs : List Int) (lg : List (Nat × Nat)) (h0 : xs.length ≠ 0) (hl : xs.length ≤ 1000000) : VC Try.prog 19 [.ptr d 0, intsV xs] ⟨DH H0 d u [], lg⟩ (fun r M' => M' = ⟨DH H0 d (oneU u xs) [], lg⟩ ∧ r = vi (oneF u xs)) := by
 have k1 : ((xs.length : Int) = 0) = False := eq_false (by omega)
 have hc := castF_range (u := u) (n := xs.length) (by omega)
 have hc0 := hc.1
 have hlt : (castF u xs.length).toNat < xs.length := by omega
 have hx : xs[(castF u xs.length).toNat]? = some (oneF u xs) := by simp [oneF, hlt]
 have hx' := map_at (f := intP) hx
 refine VC_own' T_ok (f := 19) (fn := Try.f19) (by kernel_rfl) rfl Try.ntmps19 (by rfl) (by rfl) ?_
 ((repeat refine Ws ?_);refine Wr ?_)
 simp (maxSteps := 1000000) only [VL,VM,↓VG,reduceIte,reduceCtorEq,zA,zB,zC,zD,zE,zF,zG,zH,zI,zJ]
 ((repeat refine Ws ?_);refine Wr ?_)
 simp (maxSteps := 1000000) only [VL,VM,↓VG,reduceIte,reduceCtorEq,zA,zB,zC,zD,zE,zF,zG,zH,zI,zJ, k1]
 ((repeat refine Ws ?_);refine Wf (by first|rfl|simp only [EV,zF,reduceIte]) ?_)
 ((repeat refine Ws ?_);refine W_skip ?_)
 simp (maxSteps := 1000000) only [VL,VM,↓VG,reduceIte,reduceCtorEq,zA,zB,zC,zD,zE,zF,zG,zH,zI,zJ]
 ((repeat refine Ws ?_);refine Wr ?_)
 simp (maxSteps := 1000000) only [VL,VM,↓VG,reduceIte,reduceCtorEq,zA,zB,zC,zD,zE,zF,zG,zH,zI,zJ]
 apply call_eq (f := 33) (fn := Try.f33) (by kernel_rfl) (by rfl)
 ·exact cast_v hd u xs.length lg (by omega)
 simp (maxSteps := 1000000) only [VL,VM,↓VG,reduceIte,reduceCtorEq,zA,zB,zC,zD,zE,zF,zG,zH,zI,zJ, hc0, hx']
 (repeat refine Ws ?_)
 refine W_ret ?_
 try simp only [thenQ, blockQ]
 refine own_retD hd rfl ?_ (by rfl)
 simp only [get_cons, frz, vtup, Nat.reduceEqDiff, if_true, if_false, reduceIte]
end Go.Proofs.Ythcicaelnchfdaa.Vm

/- Dice, on values, part 2. (Vm) -/
namespace Go.Proofs.Ythcicaelnchfdaa.Vm
open Go Go.Proofs
section
variable {H0 : List VObj} {d : Nat} (hd : d < H0.length) {u : Int} {L : List VObj}
include hd
theorem own_retDc {f : Nat} {fn : Func} {lg : List (Nat × Nat)} {v : Int} {e : Env} {ex : Exit} {a t : Nat} {X Y : VV} (hex : ex = .normal ∨ ex = .ret) (h1 : fn.results.toList = [.cell a t]) (hr : vload T t (get e a) ⟨DH H0 d v L, lg⟩ = some Y) (hY : frz H0.length (DH H0 d v L) Y = X) (h2 : refs X = []) : ownQ T f fn ⟨DH H0 d u [], lg⟩ (fun r M' => M' = ⟨DH H0 d v [], lg⟩ ∧ r = X) ex e ⟨DH H0 d v L, lg⟩ [] :=
 ⟨hex, rfl, ⟨[], by simp, by simp⟩, DH H0 d v [], L, DH_eq hd, by rw [DH_len, DH_len], [Y], by rw [h1]; simp [vresL, hr], X, by rw [DH_len0]; exact hY, by simp [h2], rfl, rfl⟩
theorem from_c (u lo hi : Int) (lg : List (Nat × Nat)) (h0 : -1000000000000 ≤ lo) (h1 : hi ≤ 1000000000000) (h2 : lo ≤ 1000000000000) (h3 : -1000000000000 ≤ hi) : VC Try.prog 32 [.ptr d 0, vi lo, vi hi] ⟨DH H0 d u L, lg⟩ (fun r M' => M' = ⟨DH H0 d (fromU u lo hi) L, lg⟩ ∧ r = vi (fromF u lo hi)) := by
 rw [DH_base, DH_base (u := fromU u lo hi)]
 exact from_v (by rw [List.length_append]; omega) u lo hi lg h0 h1 h2 h3
theorem cast_c (u n : Int) (lg : List (Nat × Nat)) (hn : n < 9223372036854775808) : VC Try.prog 33 [.ptr d 0, vi n] ⟨DH H0 d u L, lg⟩ (fun r M' => M' = ⟨DH H0 d (castU u n) L, lg⟩ ∧ r = vi (castF u n)) := by
 rw [DH_base, DH_base (u := castU u n)]
 exact cast_v (by rw [List.length_append]; omega) u n lg hn
theorem once_c (u n : Int) (lg : List (Nat × Nat)) (hn : n < 9223372036854775808) : VC Try.prog 43 [.ptr d 0, vi n] ⟨DH H0 d u L, lg⟩ (fun r M' => M' = ⟨DH H0 d (castU u n) L, lg⟩ ∧ r = vb (onceF u n)) := by
 rw [DH_base, DH_base (u := castU u n)]
 exact once_v (by rw [List.length_append]; omega) u n lg hn
theorem one_c (u : Int) (xs : List Int) (lg : List (Nat × Nat)) (h0 : xs.length ≠ 0) (hl : xs.length ≤ 1000000) : VC Try.prog 19 [.ptr d 0, intsV xs] ⟨DH H0 d u L, lg⟩ (fun r M' => M' = ⟨DH H0 d (oneU u xs) L, lg⟩ ∧ r = vi (oneF u xs)) := by
 rw [DH_base, DH_base (u := oneU u xs)]
 exact one_v (by rw [List.length_append]; omega) u xs lg h0 hl
end
theorem oneF_mem {u : Int} {xs : List Int} (h0 : xs.length ≠ 0) (hl : xs.length ≤ 1000000) : oneF u xs ∈ xs := by
 have hc := castF_range (u := u) (n := xs.length) (by omega)
 have hlt : (castF u xs.length).toNat < xs.length := by omega
 have hx : xs[(castF u xs.length).toNat]? = some (oneF u xs) := by simp [oneF, hlt]
 exact List.mem_of_getElem? hx
end Go.Proofs.Ythcicaelnchfdaa.Vm

/- Dice, on values, part 3. (Vm) -/
namespace Go.Proofs.Ythcicaelnchfdaa.Vm
open Go Go.Proofs
def trueU1 (u : Int) (x : Sp) : Int := fromU u x.lo x.hi
def trueU2 (u : Int) (x : Sp) : Int := fromU (trueU1 u x) x.lo x.hi
def trueL (u : Int) (x : Sp) : List Int := [x.lo, x.hi, fromF u x.lo x.hi, fromF (trueU1 u x) x.lo x.hi]
def trueF (u : Int) (x : Sp) : Int := oneF (trueU2 u x) (trueL u x)
def trueU (u : Int) (x : Sp) : Int := oneU (trueU2 u x) (trueL u x)
theorem trueF_range {u : Int} {x : Sp} (h : x.lo ≤ x.hi) (h2 : x.hi - x.lo < 1000000000) : x.lo ≤ trueF u x ∧ trueF u x ≤ x.hi := by
 have h1 := fromF_range (u := u) (lo := x.lo) (hi := x.hi) (by omega)
 have h3 := fromF_range (u := trueU1 u x) (lo := x.lo) (hi := x.hi) (by omega)
 have hm : trueF u x ∈ trueL u x := oneF_mem (by simp [trueL]) (by simp [trueL])
 simp only [trueL, List.mem_cons, List.not_mem_nil, or_false] at hm
 rcases hm with hm | hm | hm | hm <;> rw [hm] <;> omega
theorem true_v {H0 : List VObj} {d : Nat} (hd : d < H0.length) (u : Int) (x : Sp) (lg : List (Nat × Nat)) (h0 : 0 ≤ x.lo) (h1 : x.lo ≤ x.hi) (h2 : x.hi ≤ 100000000) : VC Try.prog 88 [.ptr d 0, spV x] ⟨DH H0 d u [], lg⟩ (fun r M' => M' = ⟨DH H0 d (trueU u x) [], lg⟩ ∧ r = vi (trueF u x)) := by
 refine VC_own' T_ok (f := 88) (fn := Try.f88) (by kernel_rfl) rfl Try.ntmps88 (by rfl) (by rfl) ?_
 ((repeat refine Ws ?_);refine Wr ?_)
 simp (maxSteps := 1000000) only [VL,VM,↓VG,reduceIte,reduceCtorEq,zA,zB,zC,zD,zE,zF,zG,zH,zI,zJ, DH_app hd, DH_len, DH_len0, DH_get hd, DH_get0 hd, DH_set hd, DH_set0 hd, DH_setd, DH_die hd]
 (repeat refine Ws ?_)
 refine W_drawP T_ok [] (by kernel_rfl) (by kernel_rfl) ?_
 generalize hi : mkPlan _ = infs
 cbv at hi
 subst hi
 simp (maxSteps := 1000000) only [VL,VM,↓VG,reduceIte,reduceCtorEq,zA,zB,zC,zD,zE,zF,zG,zH,zI,zJ, DH_app hd, DH_len, DH_len0, DH_get hd, DH_get0 hd, DH_set hd, DH_set0 hd, DH_setd, DH_die hd]
 apply call_d (f := 32) (fn := Try.f32) (by kernel_rfl) (by rfl)
 ·exact from_c hd u x.lo x.hi lg (by omega) (by omega) (by omega) (by omega)
 simp (maxSteps := 1000000) only [VL,VM,↓VG,reduceIte,reduceCtorEq,zA,zB,zC,zD,zE,zF,zG,zH,zI,zJ, DH_app hd, DH_len, DH_len0, DH_get hd, DH_get0 hd, DH_set hd, DH_set0 hd, DH_setd, DH_die hd]
 apply call_d (f := 32) (fn := Try.f32) (by kernel_rfl) (by rfl)
 ·exact from_c hd (trueU1 u x) x.lo x.hi lg (by omega) (by omega) (by omega) (by omega)
 simp (maxSteps := 1000000) only [VL,VM,↓VG,reduceIte,reduceCtorEq,zA,zB,zC,zD,zE,zF,zG,zH,zI,zJ, DH_app hd, DH_len, DH_len0, DH_get hd, DH_get0 hd, DH_set hd, DH_set0 hd, DH_setd, DH_die hd]
 apply call_d (f := 19) (fn := Try.f19) (by kernel_rfl) (by rfl)
 ·exact one_c hd (trueU2 u x) (trueL u x) lg (by simp [trueL]) (by simp [trueL])
 simp (maxSteps := 1000000) only [VL,VM,↓VG,reduceIte,reduceCtorEq,zA,zB,zC,zD,zE,zF,zG,zH,zI,zJ, DH_app hd, DH_len, DH_len0, DH_get hd, DH_get0 hd, DH_set hd, DH_set0 hd, DH_setd, DH_die hd]
 (repeat refine Ws ?_)
 refine W_ret ?_
 try simp only [thenQ, blockQ]
 refine own_retD hd rfl ?_ (by rfl)
 simp only [get_cons, frz, vtup, Nat.reduceEqDiff, if_true, if_false, reduceIte]
 rfl
end Go.Proofs.Ythcicaelnchfdaa.Vm

/- Dice made of numbers, places, loads, on values. (Vm) -/
namespace Go.Proofs.Ythcicaelnchfdaa.Vm
open Go Go.Proofs
theorem VC_esc {P : Program} {T : Tab} (hT : TabOk P T) {f : Nat} {fn : Func} {c : Code} {nt : Nat} {args : List VV} {M : Mem} {Q : VV → Mem → Prop} (hf : T.fn f = some fn) (hb : fn.body = some c) (hnt : fn.ntmps = nt) (hn : Nat.ble args.length nt = true) (hk : T.keeps f = false)
  (h : WCode P ⟨f, none, nt⟩ c (zipEnv 0 args) M [] (fun ex e M' D => (ex = .normal ∨ ex = .ret) ∧ D = [] ∧ ∃ vs, vresL T e M' fn.results.toList = some vs ∧ (∃ x ∈ refs (frz M.H.length M'.H (vtup vs)), M.H.length ≤ x) ∧ Q (vtup vs) M')) : VC P f args M Q := by
 subst hnt
 refine VC_fn hT hf hb (Nat.le_of_ble_eq_true hn) fun hlg => h.mono ?_
 rintro ex e M' D ⟨hex, rfl, vs, h1, ⟨x, hx, hx2⟩, h3⟩
 have key : retQ T f M.H.length fn Q .ret e M' [] := by
  simp only [retQ, vkill]
  have hM : ({ M' with H := M'.H } : Mem) = M' := rfl
  rw [hM, h1]
  simp only
  have q3 : ((refs (frz M.H.length M'.H (vtup vs))).all (Nat.blt · M.H.length)) = false := by
   rw [List.all_eq_false]
   exact ⟨x, hx, by rw [Nat.blt_eq]; omega⟩
  unfold vfinish
  rw [hk, q3, Bool.and_false]
  exact h3
 rcases hex with rfl | rfl
 ·exact key
 ·exact key
def dieU : List Int → Int := List.foldl (fun u x => nextU (wrU (xorU u (wrU x) * 11507291218515648293))) 2611923443488327891
theorem dieU_take {xs : List Int} {i : Nat} {x : Int} (h : xs[i]? = some x) : dieU (xs.take (i + 1)) = nextU (wrU (xorU (dieU (xs.take i)) (wrU x) * 11507291218515648293)) := by
 rw [List.take_add_one, h]
 simp [dieU, Option.toList]
theorem dieOf_v (xs : List Int) (M : Mem) (hl : xs.length ≤ maxLen) : VC Try.prog 17 [intsV xs] M (fun r M' => M' = ⟨DH (M.H ++ [.dead]) M.H.length (dieU xs) [], M.lg⟩ ∧ r = .ptr M.H.length 0) := by
 have hmx : maxLen < 9223372036854775808 := by decide
 have hd : M.H.length < (M.H ++ [VObj.dead]).length := by simp
 refine VC_esc T_ok (f := 17) (fn := Try.f17) (by kernel_rfl) rfl Try.ntmps17 (by rfl) (by rfl) ?_
 ((repeat refine Ws ?_);refine Wr ?_)
 simp (maxSteps := 1000000) only [VL,VM,↓VG,reduceIte,reduceCtorEq,zA,zB,zC,zD,zE,zF,zG,zH,zI,zJ]
 ((repeat refine Ws ?_);refine Wr ?_)
 simp (maxSteps := 1000000) only [VL,VM,↓VG,reduceIte,reduceCtorEq,zA,zB,zC,zD,zE,zF,zG,zH,zI,zJ]
 rw [show M.H ++ [VObj.obj [uv 2611923443488327891]] = DH (M.H ++ [VObj.dead]) M.H.length (dieU []) [] by simp [DH, dieU]]
 ((repeat refine Ws ?_);refine Wr ?_)
 simp (maxSteps := 1000000) only [VL,VM,↓VG,reduceIte,reduceCtorEq,zA,zB,zC,zD,zE,zF,zG,zH,zI,zJ]
 ((repeat refine Ws ?_);refine W_block ?_; (repeat refine Ws ?_)); refine W_loopS (fun i : Nat => [(0, intsV xs), (3, .ptr M.H.length 0), (4, vi i)]) (fun i => ⟨DH (M.H ++ [VObj.dead]) M.H.length (dieU (xs.take i)) [], M.lg⟩) (fun i => xs.length - i) (fun i => i ≤ xs.length) 0 (Nat.zero_le _) ⟨rfl, rfl, rfl, trivial⟩ rfl ?_
 rintro i hi
 ((repeat refine Ws ?_);refine Wr ?_)
 rcases Nat.lt_or_ge i xs.length with hlt | hge
 ·have k1 : -9223372036854775808 ≤ (i : Int) + 1 ∧ (i : Int) + 1 < 9223372036854775808 := by omega
  have k2 : ((i : Int) < (xs.length : Int)) = True := eq_true (by omega)
  have hx : xs[i]? = some xs[i] := List.getElem?_eq_getElem hlt
  have hx' := map_at (f := intP) hx
  generalize hc : xs[i] = x at hx hx'
  simp (maxSteps := 1000000) only [VL,VM,↓VG,reduceIte,reduceCtorEq,zA,zB,zC,zD,zE,zF,zG,zH,zI,zJ, k2]
  ((repeat refine Ws ?_);refine Wt (by first|rfl|simp only [EV,zF,reduceIte]) ?_)
  ((repeat refine Ws ?_);refine W_skip ?_)
  simp (maxSteps := 1000000) only [VL,VM,↓VG,reduceIte,reduceCtorEq,zA,zB,zC,zD,zE,zF,zG,zH,zI,zJ]
  ((repeat refine Ws ?_);refine W_block ?_)
  (repeat refine Ws ?_)
  refine W_drawP T_ok [] (by kernel_rfl) (by kernel_rfl) ?_
  generalize hi : mkPlan _ = infs
  cbv at hi
  subst hi
  simp (maxSteps := 1000000) only [VL,VM,↓VG,reduceIte,reduceCtorEq,zA,zB,zC,zD,zE,zF,zG,zH,zI,zJ, DH_die hd, DH_setd, hx', c_iu, u_xor, u_mul]
  ((repeat refine Ws ?_);refine Wr ?_)
  simp (maxSteps := 1000000) only [VL,VM,↓VG,reduceIte,reduceCtorEq,zA,zB,zC,zD,zE,zF,zG,zH,zI,zJ]
  apply call_eq (f := 59) (fn := Try.f59) (by kernel_rfl) (by rfl)
  ·exact roll_v hd (wrU (xorU (dieU (xs.take i)) (wrU x) * 11507291218515648293)) M.lg
  simp (maxSteps := 1000000) only [VL,VM,↓VG,reduceIte,reduceCtorEq,zA,zB,zC,zD,zE,zF,zG,zH,zI,zJ]
  ((repeat refine Ws ?_);refine Wr ?_)
  simp (maxSteps := 1000000) only [VL,VM,↓VG,reduceIte,reduceCtorEq,zA,zB,zC,zD,zE,zF,zG,zH,zI,zJ, k1]
  refine LoopK.mk (i + 1) (by omega) (by omega) ⟨rfl, rfl, rfl, trivial⟩ ?_
  simp only [dieU_take hx]
 ·have k2 : ((i : Int) < (xs.length : Int)) = False := eq_false (by omega)
  obtain rfl : i = xs.length := by omega
  rw [List.take_length]
  simp (maxSteps := 1000000) only [VL,VM,↓VG,reduceIte,reduceCtorEq,zA,zB,zC,zD,zE,zF,zG,zH,zI,zJ, k2]
  ((repeat refine Ws ?_);refine Wf (by first|rfl|simp only [EV,zF,reduceIte]) ?_)
  ((repeat refine Ws ?_);refine W_exit ?_)
  simp (maxSteps := 1000000) only [VL,VM,↓VG,reduceIte,reduceCtorEq,zA,zB,zC,zD,zE,zF,zG,zH,zI,zJ]
  ((repeat refine Ws ?_);refine Wr ?_)
  simp (maxSteps := 1000000) only [VL,VM,↓VG,reduceIte,reduceCtorEq,zA,zB,zC,zD,zE,zF,zG,zH,zI,zJ]
  (repeat refine Ws ?_)
  refine W_ret ⟨.inr rfl, rfl, [.ptr M.H.length 0], rfl, ⟨M.H.length, by simp [vtup, frz, refs], Nat.le_refl _⟩, rfl, rfl⟩
end Go.Proofs.Ythcicaelnchfdaa.Vm
