/- A part of the proofs about the chapter of the vaults; it states no condition of its own. -/
import Derived.Test.YtominlgikchnmaaGreatDoorB11
import Derived.Test.YtominlgikchnmaaGreatDoorB21
import Derived.Test.YtominlgikchnmaaGreatDoorRows
import Derived.OpenShut
import Derived.Deep.RegionHeld3
import Derived.Deep.DrawnRows
import Derived.StillTailTactics
set_option linter.unusedVariables false
set_option linter.unusedSimpArgs false
open Int renaming reduceLE → zA, reduceLT → zB, reduceToNat → zC, reduceNeg → zD
open Nat renaming reduceLT → zE, reduceEqDiff → zF, reduceAdd → zG, reduceSub → zH, reduceMul → zI, reduceLeDiff → zJ
/- Dice: what they show is within bounds; they change themselves alone. -/
namespace Go.Proofs.YtominlgikchnmaaGreatDoor
open Go.RowKit
attribute [local go_sem ↓] Go.wp_at_zero Go.wp_at_succ

theorem wrap_u64 (x : Int) : 0 ≤ IntKind.u64.wrap x ∧ IntKind.u64.wrap x < 18446744073709551616 := by
 have h := bounds_u64 (wf_wrap .u64 x)
 exact ⟨h.1, by omega⟩

abbrev DT : Nat := 73
theorem Sl.lit {w : World} {g : Nat} {xs : List Int} (h : Blk w g 3 (xs.map (Value.int .i64)).toArray) (hl : xs.length ≤ maxLen) : Sl w w.heap.size 1 intC (.slice (some ⟨g, 0, none⟩) xs.length xs.length) xs := by
 refine Sl.of_blk h h.lt hl fun i x hx j u hu => ?_
 match j, hu with
 | 0, hu => simp [intC] at hu; subst hu; simp [hx]
 | j + 1, hu => simp [intC] at hu

abbrev held2 (w : World) (D g : Nat) (a b : Int) (w' : World) : Prop :=
 w'.cell? ⟨g, 0, none⟩ = some (.int .i64 a) ∧ w'.cell? ⟨g, 1, none⟩ = some (.int .i64 b) ∧ DieAt w' DT D ∧ Frm D w.heap.size w w' ∧ g < w'.heap.size
theorem held2.drew {w : World} {D g : Nat} {a b : Int} {w' : World} (h : held2 w D g a b w') : held2 w D g a b w'.drew := ⟨h.1, h.2.1, h.2.2.1, h.2.2.2.1.drew, h.2.2.2.2⟩
theorem held2.alloc {w : World} {D g : Nat} {a b : Int} {w' : World} {o : Obj} (h : held2 w D g a b w') : held2 w D g a b (w'.alloc o) :=
 ⟨(World.cell?_alloc_lt _ _ _ h.2.2.2.2).trans h.1, (World.cell?_alloc_lt _ _ _ h.2.2.2.2).trans h.2.1, h.2.2.1.alloc _, h.2.2.2.1.alloc h.2.2.2.1.size _, by have := h.2.2.2.2; simp; omega⟩
theorem held2.step {w : World} {D g : Nat} {a b : Int} {w' w1 : World} (h : held2 w D g a b w') (hg : g ≠ D) (hd : DieAt w1 DT D) (hf : Frm D w'.heap.size w' w1) : held2 w D g a b w1 :=
 ⟨(hf.cell (p := ⟨g, 0, none⟩) h.2.2.2.2 hg).trans h.1, (hf.cell (p := ⟨g, 1, none⟩) h.2.2.2.2 hg).trans h.2.1, hd, h.2.2.2.1.trans (hf.mono h.2.2.2.1.size), Nat.lt_of_lt_of_le h.2.2.2.2 hf.size⟩
end Go.Proofs.YtominlgikchnmaaGreatDoor

/- Dice, on values. (Vm) -/
namespace Go.Proofs.YtominlgikchnmaaGreatDoor.Vm
open Go Go.Proofs
abbrev uv (n : Int) : VV := .p (.int .u64 n)
def xorU (a b : Int) : Int := IntKind.u64.wrap (BitVec.ofInt 64 a ^^^ BitVec.ofInt 64 b).toNat
def wrU (a : Int) : Int := IntKind.u64.wrap a
def shU (a y : Int) : Int := a.fdiv (2 ^ (min y.toNat 64))
theorem u_add (t : Nat) (a b : Int) : vbin T .add t (uv a) (uv b) = some (uv (wrU (a + b))) := rfl
theorem u_mul (t : Nat) (a b : Int) : vbin T .mul t (uv a) (uv b) = some (uv (wrU (a * b))) := rfl
theorem u_xor (t : Nat) (a b : Int) : vbin T .xor t (uv a) (uv b) = some (uv (xorU a b)) := rfl
theorem u_shr (t : Nat) (a y : Int) (hy : 0 ≤ y) : vbin T .shr t (uv a) (uv y) = some (uv (shU a y)) := by
 have h0 : ¬ y < 0 := by omega
 have h2 : Go.binOp .shr 0 (.int .u64 a) (.int .u64 y) = .pure (.int .u64 (shU a y)) := by
  show Op.shift .shr .u64 a .u64 y = _
  unfold Op.shift
  rw [if_neg h0]
  rfl
 simp only [vbin, h2, pureOf, Option.map_some, ofValue]
theorem u_rem (t : Nat) (a b : Int) (hb : b ≠ 0) : vbin T .rem t (uv a) (uv b) = some (uv (a.tmod b)) := by
 have h2 : Go.binOp .rem 0 (.int .u64 a) (.int .u64 b) = .pure (.int .u64 (a.tmod b)) := by
  show Op.intDiv .rem .u64 a b = _
  unfold Op.intDiv
  rw [if_neg hb]
  rfl
 simp only [vbin, h2, pureOf, Option.map_some, ofValue]
theorem c_iu (n : Int) : vconvert T 3 71 (vi n) = some (uv (wrU n)) := by
 simp only [vconvert, t_int, t_u64]; rfl
theorem c_ui (n : Int) : vconvert T 71 3 (uv n) = some (vi (IntKind.i64.wrap n)) := by
 simp only [vconvert, t_int, t_u64]; rfl
theorem xorU_range (a b : Int) : 0 ≤ xorU a b ∧ xorU a b < 18446744073709551616 := wrap_u64 _
theorem shU_range {a y : Int} (h : 0 ≤ a) : 0 ≤ shU a y := by
 unfold shU
 have h2 : (0 : Int) ≤ 2 ^ (min y.toNat 64) := Int.pow_nonneg (by decide)
 rw [Int.fdiv_eq_ediv_of_nonneg _ h2]
 exact Int.ediv_nonneg h h2
def DH (H0 : List VObj) (d : Nat) (u : Int) (L : List VObj) : List VObj := (H0 ++ L).set d (.obj [uv u])
section
variable {H0 : List VObj} {d : Nat} (hd : d < H0.length) {u : Int} {L : List VObj}
theorem DH_len : (DH H0 d u L).length = H0.length + L.length := by simp [DH]
include hd
theorem DH_eq : DH H0 d u L = DH H0 d u [] ++ L := by
 unfold DH
 rw [List.set_append_left _ _ hd, List.append_nil]
omit hd in
theorem DH_len0 : (DH H0 d u []).length = H0.length := by rw [DH_len]; simp
theorem DH_get (k : Nat) : (DH H0 d u L)[H0.length + k]? = L[k]? := by
 rw [DH_eq hd]
 have := hget (DH H0 d u []) L k
 rwa [DH_len0] at this
theorem DH_get0 : (DH H0 d u L)[H0.length]? = L[0]? := DH_get hd 0
theorem DH_die : (DH H0 d u L)[d]? = some (.obj [uv u]) := by
 unfold DH
 rw [List.getElem?_set_self (by rw [List.length_append]; omega)]
theorem DH_app (X : List VObj) : DH H0 d u L ++ X = DH H0 d u (L ++ X) := by
 rw [DH_eq hd, DH_eq hd (L := L ++ X), List.append_assoc]
theorem DH_set (k : Nat) (o : VObj) : (DH H0 d u L).set (H0.length + k) o = DH H0 d u (L.set k o) := by
 rw [DH_eq hd, DH_eq hd (L := L.set k o)]
 have := hset (DH H0 d u []) L k o
 rwa [DH_len0] at this
theorem DH_set0 (o : VObj) : (DH H0 d u L).set H0.length o = DH H0 d u (L.set 0 o) := DH_set hd 0 o
omit hd in
theorem DH_setd (v : Int) : (DH H0 d u L).set d (.obj [uv v]) = DH H0 d v L := by
 unfold DH
 rw [List.set_set]
omit hd in
theorem DH_base : DH H0 d u L = DH (H0 ++ L) d u [] := by
 unfold DH
 rw [List.append_nil]
theorem own_retD {f : Nat} {fn : Func} {lg : List (Nat × Nat)} {v : Int} {e : Env} {t : Nat} {X : VV} (h1 : fn.results.toList = [.tmp t]) (hr : frz H0.length (DH H0 d v L) (get e t) = X) (h2 : refs X = []) : ownQ T f fn ⟨DH H0 d u [], lg⟩ (fun r M' => M' = ⟨DH H0 d v [], lg⟩ ∧ r = X) .ret e ⟨DH H0 d v L, lg⟩ [] :=
 ⟨.inr rfl, rfl, ⟨[], by simp, by simp⟩, DH H0 d v [], L, DH_eq hd, by rw [DH_len, DH_len], [get e t], by rw [h1]; rfl, X, by rw [DH_len0]; exact hr, by simp [h2], rfl, rfl⟩
end
def nextU (u : Int) : Int := wrU (u + 11562461410679940143)
def rollV (u : Int) : Int :=
 let x0 := nextU u
 let x1 := wrU (xorU x0 (shU x0 30) * 13787848793156543929)
 let x2 := wrU (xorU x1 (shU x1 27) * 10723151780598845931)
 xorU x2 (shU x2 31)
theorem rollV_range (u : Int) : 0 ≤ rollV u := (xorU_range _ _).1
theorem roll_v {H0 : List VObj} {d : Nat} (hd : d < H0.length) (u : Int) (lg : List (Nat × Nat)) : VC Tryz.prog 31 [.ptr d 0] ⟨DH H0 d u [], lg⟩ (fun r M' => M' = ⟨DH H0 d (nextU u) [], lg⟩ ∧ r = uv (rollV u)) := by
 have g1 := fun u => DH_die hd (u := u) (L := [])
 have g2 := fun u v => DH_setd (H0 := H0) (d := d) (u := u) (L := []) v
 refine VC_own' T_ok (f := 31) (fn := Tryz.f31) (by kernel_rfl) rfl Tryz.ntmps31 (by rfl) (by rfl) ?_
 ((repeat refine Ws ?_);refine Wr ?_)
 simp (maxSteps := 1000000) only [VL,VM,↓VG,reduceIte,reduceCtorEq,zA,zB,zC,zD,zE,zF,zG,zH,zI,zJ]
 ((repeat refine Ws ?_);refine Wr ?_)
 simp (maxSteps := 1000000) only [VL,VM,↓VG,reduceIte,reduceCtorEq,zA,zB,zC,zD,zE,zF,zG,zH,zI,zJ, g1, g2, u_add]
 ((repeat refine Ws ?_);refine Wr ?_)
 simp (maxSteps := 1000000) only [VL,VM,↓VG,reduceIte,reduceCtorEq,zA,zB,zC,zD,zE,zF,zG,zH,zI,zJ, g1]
 ((repeat refine Ws ?_);refine Wr ?_)
 simp (maxSteps := 1000000) only [VL,VM,↓VG,reduceIte,reduceCtorEq,zA,zB,zC,zD,zE,zF,zG,zH,zI,zJ, u_shr, u_xor, u_mul]
 ((repeat refine Ws ?_);refine Wr ?_)
 simp (maxSteps := 1000000) only [VL,VM,↓VG,reduceIte,reduceCtorEq,zA,zB,zC,zD,zE,zF,zG,zH,zI,zJ, u_shr, u_xor, u_mul]
 ((repeat refine Ws ?_);refine Wr ?_)
 simp (maxSteps := 1000000) only [VL,VM,↓VG,reduceIte,reduceCtorEq,zA,zB,zC,zD,zE,zF,zG,zH,zI,zJ, u_shr, u_xor, u_mul]
 (repeat refine Ws ?_)
 refine W_ret ?_
 try simp only [thenQ, blockQ]
 refine own_retD hd rfl ?_ (by rfl)
 simp only [get_cons, frz, vtup, Nat.reduceEqDiff, if_true, if_false, reduceIte]
 rfl
def castF (u n : Int) : Int := if n < 2 then 0 else IntKind.i64.wrap ((shU (rollV u) 2).tmod (wrU n))
def castU (u n : Int) : Int := if n < 2 then u else nextU u
theorem castF_range {u n : Int} (hn : n < 9223372036854775808) : 0 ≤ castF u n ∧ castF u n < max n 1 := by
 unfold castF
 by_cases h : n < 2
 ·rw [if_pos h]; omega
 ·rw [if_neg h]
  have hw : wrU n = n := by
   unfold wrU
   rw [IntKind.wrap_u64]
   omega
  rw [hw]
  have hs := shU_range (y := 2) (rollV_range u)
  have h1 := Int.tmod_nonneg n hs
  have h2 := Int.tmod_lt_of_pos (shU (rollV u) 2) (show 0 < n by omega)
  rw [IntWalk.i64_in _ (by omega)]
  omega
theorem cast_v {H0 : List VObj} {d : Nat} (hd : d < H0.length) (u n : Int) (lg : List (Nat × Nat)) (hn : n < 9223372036854775808) : VC Tryz.prog 29 [.ptr d 0, vi n] ⟨DH H0 d u [], lg⟩ (fun r M' => M' = ⟨DH H0 d (castU u n) [], lg⟩ ∧ r = vi (castF u n)) := by
 refine VC_own' T_ok (f := 29) (fn := Tryz.f29) (by kernel_rfl) rfl Tryz.ntmps29 (by rfl) (by rfl) ?_
 ((repeat refine Ws ?_);refine Wr ?_)
 simp (maxSteps := 1000000) only [VL,VM,↓VG,reduceIte,reduceCtorEq,zA,zB,zC,zD,zE,zF,zG,zH,zI,zJ]
 ((repeat refine Ws ?_);refine Wr ?_)
 by_cases h : n < 2
 ·simp (maxSteps := 1000000) only [VL,VM,↓VG,reduceIte,reduceCtorEq,zA,zB,zC,zD,zE,zF,zG,zH,zI,zJ, h]
  ((repeat refine Ws ?_);refine Wt (by first|rfl|simp only [EV,zF,reduceIte]) ?_)
  ((repeat refine Ws ?_);refine Wr ?_)
  simp (maxSteps := 1000000) only [VL,VM,↓VG,reduceIte,reduceCtorEq,zA,zB,zC,zD,zE,zF,zG,zH,zI,zJ]
  rw [castU, if_pos h, castF, if_pos h]
  (repeat refine Ws ?_)
  refine W_ret ?_
  try simp only [thenQ, blockQ]
  refine own_retD hd rfl ?_ (by rfl)
  simp only [get_cons, frz, vtup, Nat.reduceEqDiff, if_true, if_false, reduceIte]
 ·have hw : ¬ wrU n = 0 := by
   unfold wrU
   rw [IntKind.wrap_u64]
   omega
  simp (maxSteps := 1000000) only [VL,VM,↓VG,reduceIte,reduceCtorEq,zA,zB,zC,zD,zE,zF,zG,zH,zI,zJ, h]
  ((repeat refine Ws ?_);refine Wf (by first|rfl|simp only [EV,zF,reduceIte]) ?_)
  ((repeat refine Ws ?_);refine W_skip ?_)
  simp (maxSteps := 1000000) only [VL,VM,↓VG,reduceIte,reduceCtorEq,zA,zB,zC,zD,zE,zF,zG,zH,zI,zJ]
  rw [castU, if_neg h, castF, if_neg h]
  ((repeat refine Ws ?_);refine Wr ?_)
  simp (maxSteps := 1000000) only [VL,VM,↓VG,reduceIte,reduceCtorEq,zA,zB,zC,zD,zE,zF,zG,zH,zI,zJ]
  apply call_eq (f := 31) (fn := Tryz.f31) (by kernel_rfl) (by rfl)
  ·exact roll_v hd u lg
  simp (maxSteps := 1000000) only [VL,VM,↓VG,reduceIte,reduceCtorEq,zA,zB,zC,zD,zE,zF,zG,zH,zI,zJ, u_shr, c_iu, u_rem, hw, c_ui, ne_eq]
  (repeat refine Ws ?_)
  refine W_ret ?_
  try simp only [thenQ, blockQ]
  refine own_retD hd rfl ?_ (by rfl)
  simp only [get_cons, frz, vtup, Nat.reduceEqDiff, if_true, if_false, reduceIte]
def fromF (u lo hi : Int) : Int := lo + castF u (hi - lo + 1)
def fromU (u lo hi : Int) : Int := castU u (hi - lo + 1)
theorem fromF_range {u lo hi : Int} (h : hi - lo < 1000000000000) : lo ≤ fromF u lo hi ∧ fromF u lo hi ≤ max lo hi := by
 unfold fromF
 have := castF_range (u := u) (n := hi - lo + 1) (by omega)
 omega
theorem from_v {H0 : List VObj} {d : Nat} (hd : d < H0.length) (u lo hi : Int) (lg : List (Nat × Nat)) (h0 : -1000000000000 ≤ lo) (h1 : hi ≤ 1000000000000) (h2 : lo ≤ 1000000000000) (h3 : -1000000000000 ≤ hi) : VC Tryz.prog 24 [.ptr d 0, vi lo, vi hi] ⟨DH H0 d u [], lg⟩ (fun r M' => M' = ⟨DH H0 d (fromU u lo hi) [], lg⟩ ∧ r = vi (fromF u lo hi)) := by
 have k1 : -9223372036854775808 ≤ hi - lo ∧ hi - lo < 9223372036854775808 := by omega
 have k2 : -9223372036854775808 ≤ hi - lo + 1 ∧ hi - lo + 1 < 9223372036854775808 := by omega
 have hc := castF_range (u := u) (n := hi - lo + 1) (by omega)
 have k3 : -9223372036854775808 ≤ lo + castF u (hi - lo + 1) ∧ lo + castF u (hi - lo + 1) < 9223372036854775808 := by omega
 refine VC_own' T_ok (f := 24) (fn := Tryz.f24) (by kernel_rfl) rfl Tryz.ntmps24 (by rfl) (by rfl) ?_
 ((repeat refine Ws ?_);refine Wr ?_)
 simp (maxSteps := 1000000) only [VL,VM,↓VG,reduceIte,reduceCtorEq,zA,zB,zC,zD,zE,zF,zG,zH,zI,zJ]
 ((repeat refine Ws ?_);refine Wr ?_)
 simp (maxSteps := 1000000) only [VL,VM,↓VG,reduceIte,reduceCtorEq,zA,zB,zC,zD,zE,zF,zG,zH,zI,zJ, k1, k2]
 apply call_eq (f := 29) (fn := Tryz.f29) (by kernel_rfl) (by rfl)
 ·exact cast_v hd u (hi - lo + 1) lg (by omega)
 simp (maxSteps := 1000000) only [VL,VM,↓VG,reduceIte,reduceCtorEq,zA,zB,zC,zD,zE,zF,zG,zH,zI,zJ, k3]
 (repeat refine Ws ?_)
 refine W_ret ?_
 try simp only [thenQ, blockQ]
 refine own_retD hd rfl ?_ (by rfl)
 simp only [get_cons, frz, vtup, Nat.reduceEqDiff, if_true, if_false, reduceIte]
 rfl
def onceF (u n : Int) : Bool := decide (castF u n = 0)
theorem once_v {H0 : List VObj} {d : Nat} (hd : d < H0.length) (u n : Int) (lg : List (Nat × Nat)) (hn : n < 9223372036854775808) : VC Tryz.prog 26 [.ptr d 0, vi n] ⟨DH H0 d u [], lg⟩ (fun r M' => M' = ⟨DH H0 d (castU u n) [], lg⟩ ∧ r = vb (onceF u n)) := by
 refine VC_own' T_ok (f := 26) (fn := Tryz.f26) (by kernel_rfl) rfl Tryz.ntmps26 (by rfl) (by rfl) ?_
 ((repeat refine Ws ?_);refine Wr ?_)
 simp (maxSteps := 1000000) only [VL,VM,↓VG,reduceIte,reduceCtorEq,zA,zB,zC,zD,zE,zF,zG,zH,zI,zJ]
 ((repeat refine Ws ?_);refine Wr ?_)
 simp (maxSteps := 1000000) only [VL,VM,↓VG,reduceIte,reduceCtorEq,zA,zB,zC,zD,zE,zF,zG,zH,zI,zJ]
 apply call_eq (f := 29) (fn := Tryz.f29) (by kernel_rfl) (by rfl)
 ·exact cast_v hd u n lg hn
 simp (maxSteps := 1000000) only [VL,VM,↓VG,reduceIte,reduceCtorEq,zA,zB,zC,zD,zE,zF,zG,zH,zI,zJ]
 (repeat refine Ws ?_)
 refine W_ret ?_
 try simp only [thenQ, blockQ]
 refine own_retD hd rfl ?_ (by rfl)
 simp only [get_cons, frz, vtup, Nat.reduceEqDiff, if_true, if_false, reduceIte]
 rfl
def oneF (u : Int) (xs : List Int) : Int := xs.getD (castF u xs.length).toNat 0
def oneU (u : Int) (xs : List Int) : Int := castU u xs.length
theorem one_v {H0 : List VObj} {d : Nat} (hd : d < H0.length) (u : Int) (xs : List Int) (lg : List (Nat × Nat)) (h0 : xs.length ≠ 0) (hl : xs.length ≤ 1000000) : VC Tryz.prog 28 [.ptr d 0, intsV xs] ⟨DH H0 d u [], lg⟩ (fun r M' => M' = ⟨DH H0 d (oneU u xs) [], lg⟩ ∧ r = vi (oneF u xs)) := by
 have k1 : ((xs.length : Int) = 0) = False := eq_false (by omega)
 have hc := castF_range (u := u) (n := xs.length) (by omega)
 have hc0 := hc.1
 have hlt : (castF u xs.length).toNat < xs.length := by omega
 have hx : xs[(castF u xs.length).toNat]? = some (oneF u xs) := by simp [oneF, hlt]
 have hx' := map_at (f := intP) hx
 refine VC_own' T_ok (f := 28) (fn := Tryz.f28) (by kernel_rfl) rfl Tryz.ntmps28 (by rfl) (by rfl) ?_
 ((repeat refine Ws ?_);refine Wr ?_)
 simp (maxSteps := 1000000) only [VL,VM,↓VG,reduceIte,reduceCtorEq,zA,zB,zC,zD,zE,zF,zG,zH,zI,zJ]
 ((repeat refine Ws ?_);refine Wr ?_)
 simp (maxSteps := 1000000) only [VL,VM,↓VG,reduceIte,reduceCtorEq,zA,zB,zC,zD,zE,zF,zG,zH,zI,zJ, k1]
 ((repeat refine Ws ?_);refine Wf (by first|rfl|simp only [EV,zF,reduceIte]) ?_)
 ((repeat refine Ws ?_);refine W_skip ?_)
 simp (maxSteps := 1000000) only [VL,VM,↓VG,reduceIte,reduceCtorEq,zA,zB,zC,zD,zE,zF,zG,zH,zI,zJ]
 ((repeat refine Ws ?_);refine Wr ?_)
 simp (maxSteps := 1000000) only [VL,VM,↓VG,reduceIte,reduceCtorEq,zA,zB,zC,zD,zE,zF,zG,zH,zI,zJ]
 apply call_eq (f := 29) (fn := Tryz.f29) (by kernel_rfl) (by rfl)
 ·exact cast_v hd u xs.length lg (by omega)
 simp (maxSteps := 1000000) only [VL,VM,↓VG,reduceIte,reduceCtorEq,zA,zB,zC,zD,zE,zF,zG,zH,zI,zJ, hc0, hx']
 (repeat refine Ws ?_)
 refine W_ret ?_
 try simp only [thenQ, blockQ]
 refine own_retD hd rfl ?_ (by rfl)
 simp only [get_cons, frz, vtup, Nat.reduceEqDiff, if_true, if_false, reduceIte]
end Go.Proofs.YtominlgikchnmaaGreatDoor.Vm

/- Dice, on values, part 2. (Vm) -/
namespace Go.Proofs.YtominlgikchnmaaGreatDoor.Vm
open Go Go.Proofs
section
variable {H0 : List VObj} {d : Nat} (hd : d < H0.length) {u : Int} {L : List VObj}
include hd
theorem own_retDc {f : Nat} {fn : Func} {lg : List (Nat × Nat)} {v : Int} {e : Env} {ex : Exit} {a t : Nat} {X Y : VV} (hex : ex = .normal ∨ ex = .ret) (h1 : fn.results.toList = [.cell a t]) (hr : vload T t (get e a) ⟨DH H0 d v L, lg⟩ = some Y) (hY : frz H0.length (DH H0 d v L) Y = X) (h2 : refs X = []) : ownQ T f fn ⟨DH H0 d u [], lg⟩ (fun r M' => M' = ⟨DH H0 d v [], lg⟩ ∧ r = X) ex e ⟨DH H0 d v L, lg⟩ [] :=
 ⟨hex, rfl, ⟨[], by simp, by simp⟩, DH H0 d v [], L, DH_eq hd, by rw [DH_len, DH_len], [Y], by rw [h1]; simp [vresL, hr], X, by rw [DH_len0]; exact hY, by simp [h2], rfl, rfl⟩
theorem from_c (u lo hi : Int) (lg : List (Nat × Nat)) (h0 : -1000000000000 ≤ lo) (h1 : hi ≤ 1000000000000) (h2 : lo ≤ 1000000000000) (h3 : -1000000000000 ≤ hi) : VC Tryz.prog 24 [.ptr d 0, vi lo, vi hi] ⟨DH H0 d u L, lg⟩ (fun r M' => M' = ⟨DH H0 d (fromU u lo hi) L, lg⟩ ∧ r = vi (fromF u lo hi)) := by
 rw [DH_base, DH_base (u := fromU u lo hi)]
 exact from_v (by rw [List.length_append]; omega) u lo hi lg h0 h1 h2 h3
theorem cast_c (u n : Int) (lg : List (Nat × Nat)) (hn : n < 9223372036854775808) : VC Tryz.prog 29 [.ptr d 0, vi n] ⟨DH H0 d u L, lg⟩ (fun r M' => M' = ⟨DH H0 d (castU u n) L, lg⟩ ∧ r = vi (castF u n)) := by
 rw [DH_base, DH_base (u := castU u n)]
 exact cast_v (by rw [List.length_append]; omega) u n lg hn
theorem once_c (u n : Int) (lg : List (Nat × Nat)) (hn : n < 9223372036854775808) : VC Tryz.prog 26 [.ptr d 0, vi n] ⟨DH H0 d u L, lg⟩ (fun r M' => M' = ⟨DH H0 d (castU u n) L, lg⟩ ∧ r = vb (onceF u n)) := by
 rw [DH_base, DH_base (u := castU u n)]
 exact once_v (by rw [List.length_append]; omega) u n lg hn
theorem one_c (u : Int) (xs : List Int) (lg : List (Nat × Nat)) (h0 : xs.length ≠ 0) (hl : xs.length ≤ 1000000) : VC Tryz.prog 28 [.ptr d 0, intsV xs] ⟨DH H0 d u L, lg⟩ (fun r M' => M' = ⟨DH H0 d (oneU u xs) L, lg⟩ ∧ r = vi (oneF u xs)) := by
 rw [DH_base, DH_base (u := oneU u xs)]
 exact one_v (by rw [List.length_append]; omega) u xs lg h0 hl
end
theorem oneF_mem {u : Int} {xs : List Int} (h0 : xs.length ≠ 0) (hl : xs.length ≤ 1000000) : oneF u xs ∈ xs := by
 have hc := castF_range (u := u) (n := xs.length) (by omega)
 have hlt : (castF u xs.length).toNat < xs.length := by omega
 have hx : xs[(castF u xs.length).toNat]? = some (oneF u xs) := by simp [oneF, hlt]
 exact List.mem_of_getElem? hx
def spanU1 (u lo hi : Int) : Int := fromU u lo hi
def spanL (u lo hi : Int) : List Int := [fromF u lo hi, min hi (fromF u lo hi + 4), hi]
def spanM (u lo hi : Int) : Int := oneF (spanU1 u lo hi) (spanL u lo hi)
def spanU2 (u lo hi : Int) : Int := oneU (spanU1 u lo hi) (spanL u lo hi)
def spanF (u lo hi : Int) : Sp := ⟨fromF u lo hi, fromF (spanU2 u lo hi) (fromF u lo hi) (spanM u lo hi)⟩
def spanU (u lo hi : Int) : Int := fromU (spanU2 u lo hi) (fromF u lo hi) (spanM u lo hi)
theorem spanM_range {u lo hi : Int} (h : lo ≤ hi) (h2 : hi - lo < 1000000000) : fromF u lo hi ≤ spanM u lo hi ∧ spanM u lo hi ≤ hi := by
 have h1 := fromF_range (u := u) (lo := lo) (hi := hi) (by omega)
 have hm : spanM u lo hi ∈ spanL u lo hi := oneF_mem (by simp [spanL]) (by simp [spanL])
 simp only [spanL, List.mem_cons, List.not_mem_nil, or_false] at hm
 rcases hm with hm | hm | hm <;> rw [hm] <;> omega
theorem span_range {u lo hi : Int} (h : lo ≤ hi) (h2 : hi - lo < 1000000000) : lo ≤ (spanF u lo hi).lo ∧ (spanF u lo hi).lo ≤ (spanF u lo hi).hi ∧ (spanF u lo hi).hi ≤ hi := by
 have h1 := fromF_range (u := u) (lo := lo) (hi := hi) (by omega)
 have h3 := spanM_range (u := u) h h2
 have h4 := fromF_range (u := spanU2 u lo hi) (lo := fromF u lo hi) (hi := spanM u lo hi) (by omega)
 simp only [spanF]
 omega
theorem span_v {H0 : List VObj} {d : Nat} (hd : d < H0.length) (u lo hi : Int) (lg : List (Nat × Nat)) (h0 : 0 ≤ lo) (h1 : lo ≤ hi) (h2 : hi ≤ 100000000) : VC Tryz.prog 30 [.ptr d 0, vi lo, vi hi] ⟨DH H0 d u [], lg⟩ (fun r M' => M' = ⟨DH H0 d (spanU u lo hi) [], lg⟩ ∧ r = spV (spanF u lo hi)) := by
 have a1 := fromF_range (u := u) (lo := lo) (hi := hi) (by omega)
 have a2 := spanM_range (u := u) h1 (by omega)
 have k1 : -9223372036854775808 ≤ fromF u lo hi + 4 ∧ fromF u lo hi + 4 < 9223372036854775808 := by omega
 have g0 := DH_app hd (u := u) (L := [])
 refine VC_own' T_ok (f := 30) (fn := Tryz.f30) (by kernel_rfl) rfl Tryz.ntmps30 (by rfl) (by rfl) ?_
 ((repeat refine Ws ?_);refine Wr ?_)
 simp (maxSteps := 1000000) only [VL,VM,↓VG,reduceIte,reduceCtorEq,zA,zB,zC,zD,zE,zF,zG,zH,zI,zJ, DH_app hd, DH_len, DH_len0]
 ((repeat refine Ws ?_);refine Wr ?_)
 simp (maxSteps := 1000000) only [VL,VM,↓VG,reduceIte,reduceCtorEq,zA,zB,zC,zD,zE,zF,zG,zH,zI,zJ]
 apply call_eq (f := 24) (fn := Tryz.f24) (by kernel_rfl) (by rfl)
 ·exact from_c hd u lo hi lg (by omega) (by omega) (by omega) (by omega)
 simp (maxSteps := 1000000) only [VL,VM,↓VG,reduceIte,reduceCtorEq,zA,zB,zC,zD,zE,zF,zG,zH,zI,zJ]
 ((repeat refine Ws ?_);refine Wr ?_)
 simp (maxSteps := 1000000) only [VL,VM,↓VG,reduceIte,reduceCtorEq,zA,zB,zC,zD,zE,zF,zG,zH,zI,zJ, k1]
 apply call_eq (f := 28) (fn := Tryz.f28) (by kernel_rfl) (by rfl)
 ·exact one_c hd (spanU1 u lo hi) (spanL u lo hi) lg (by simp [spanL]) (by simp [spanL])
 simp (maxSteps := 1000000) only [VL,VM,↓VG,reduceIte,reduceCtorEq,zA,zB,zC,zD,zE,zF,zG,zH,zI,zJ]
 ((repeat refine Ws ?_);refine Wr ?_)
 simp (maxSteps := 1000000) only [VL,VM,↓VG,reduceIte,reduceCtorEq,zA,zB,zC,zD,zE,zF,zG,zH,zI,zJ]
 apply call_eq (f := 24) (fn := Tryz.f24) (by kernel_rfl) (by rfl)
 ·exact from_c hd (spanU2 u lo hi) (fromF u lo hi) (spanM u lo hi) lg (by omega) (by omega) (by omega) (by omega)
 simp (maxSteps := 1000000) only [VL,VM,↓VG,reduceIte,reduceCtorEq,zA,zB,zC,zD,zE,zF,zG,zH,zI,zJ, DH_get0 hd, DH_get hd, DH_set hd, DH_set0 hd]
 (repeat refine Ws ?_)
 refine W_ret ?_
 try simp only [thenQ, blockQ]
 refine own_retDc hd (.inr rfl) rfl (by simp [get_cons, vload, t_span, DH_get0 hd, nat_ble, strip1]; rfl) (by rfl) (by rfl)
theorem span_c {H0 : List VObj} {d : Nat} (hd : d < H0.length) {L : List VObj} (u lo hi : Int) (lg : List (Nat × Nat)) (h0 : 0 ≤ lo) (h1 : lo ≤ hi) (h2 : hi ≤ 100000000) : VC Tryz.prog 30 [.ptr d 0, vi lo, vi hi] ⟨DH H0 d u L, lg⟩ (fun r M' => M' = ⟨DH H0 d (spanU u lo hi) L, lg⟩ ∧ r = spV (spanF u lo hi)) := by
 rw [DH_base, DH_base (u := spanU u lo hi)]
 exact span_v (by rw [List.length_append]; omega) u lo hi lg h0 h1 h2
end Go.Proofs.YtominlgikchnmaaGreatDoor.Vm

/- Dice, the second part. -/
namespace Go.Proofs.YtominlgikchnmaaGreatDoor
open Go.RowKit
attribute [local go_sem ↓] Go.wp_at_zero Go.wp_at_succ
theorem swap_perm {α : Type} (x : α) : ∀ (p : List α) (c : Nat) (h : c < p.length), (p.set c x ++ [p[c]]).Perm (p ++ [x])
 | [], c, h => by simp at h
 | a :: l, 0, h => by
  simp only [List.set_cons_zero, List.getElem_cons_zero, List.cons_append]
  refine (List.Perm.cons x (List.perm_append_singleton a l)).trans ((List.Perm.swap _ _ _).trans (List.Perm.cons a (List.perm_append_singleton x l).symm))
 | a :: l, c + 1, h => by
  simp only [List.set_cons_succ, List.getElem_cons_succ, List.cons_append]
  exact List.Perm.cons a (swap_perm x l c (by simpa using h))
def Shuf (m k : Nat) (xs : List Int) : Prop := ∃ p : List Nat, p.Perm (List.range k) ∧ xs = p.map (fun i : Nat => (i : Int)) ++ List.replicate (m - k) 0
theorem Shuf.len {m k : Nat} {xs : List Int} (h : Shuf m k xs) (hk : k ≤ m) : xs.length = m := by
 obtain ⟨p, hp, rfl⟩ := h
 have := hp.length_eq
 simp at this
 simp [this]; omega
theorem Shuf.step {m k c : Nat} {xs : List Int} (h : Shuf m k xs) (hk : k < m) (hc : c ≤ k) (x : Int) (hx : xs[c]? = some x) : Shuf m (k + 1) ((xs.set k x).set c k) := by
 obtain ⟨p, hp, rfl⟩ := h
 have hl : p.length = k := by have := hp.length_eq; simpa using this
 have hrep : List.replicate (m - k) (0 : Int) = 0 :: List.replicate (m - (k + 1)) 0 := by rw [← List.replicate_succ]; congr 1; omega
 have e1 : ((p.map (fun i : Nat => (i : Int))) ++ List.replicate (m - k) 0).set k x = p.map (fun i : Nat => (i : Int)) ++ x :: List.replicate (m - (k + 1)) 0 := by
  rw [List.set_append_right _ _ (by simp [hl]), hrep]; simp [hl]
 rw [e1]
 rcases Nat.lt_or_ge c k with hck | hck
 ·have hx' : x = (p[c]'(by omega) : Nat) := by
   rw [List.getElem?_append_left (by simp; omega)] at hx
   simp [show c < p.length by omega] at hx
   exact hx.symm
  refine ⟨p.set c k ++ [p[c]'(by omega)], ?_, ?_⟩
  ·refine (swap_perm k p c (by omega)).trans ?_
   rw [List.range_succ]
   exact hp.append (List.Perm.refl _)
  ·rw [List.set_append_left _ _ (by simp; omega), hx']
   simp [List.map_set]
 ·have : c = k := by omega
  subst this
  refine ⟨p ++ [c], ?_, ?_⟩
  ·rw [List.range_succ]; exact hp.append (List.Perm.refl _)
  ·rw [List.set_append_right _ _ (by simp [hl])]
   simp [hl]
end Go.Proofs.YtominlgikchnmaaGreatDoor

/- Dice, on values, part 3. (Vm) -/
namespace Go.Proofs.YtominlgikchnmaaGreatDoor.Vm
open Go Go.Proofs
end Go.Proofs.YtominlgikchnmaaGreatDoor.Vm
