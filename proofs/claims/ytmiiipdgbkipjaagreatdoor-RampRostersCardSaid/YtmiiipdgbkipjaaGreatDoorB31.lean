/- A part of the proofs about the chapter of the ramps; it states no condition of its own. -/
import Derived.Test.YtmiiipdgbkipjaaGreatDoorB15
import Derived.Test.YtmiiipdgbkipjaaGreatDoorB16
import Derived.Test.YtmiiipdgbkipjaaGreatDoorB17
import Derived.Test.YtmiiipdgbkipjaaGreatDoorB30
import Derived.Lib.ItoaLen
set_option linter.unusedVariables false
set_option linter.unusedSimpArgs false
open Int renaming reduceLE → zA, reduceLT → zB, reduceToNat → zC, reduceNeg → zD
open Nat renaming reduceLT → zE, reduceEqDiff → zF, reduceAdd → zG, reduceSub → zH, reduceMul → zI, reduceLeDiff → zJ
/- Yards made of numbers, on values. (Vm) -/
namespace Go.Proofs.YtmiiipdgbkipjaaGreatDoor.Vm
open Go Go.Proofs
theorem addLg_hasY {id r : Nat} {lg : List (Nat × Nat)} (h : (id, r) ∈ lg) : addLg id [r] lg = lg := by
 unfold addLg
 have h1 : (lg.any fun e => Nat.beq e.1 id && Nat.beq e.2 r) = true := List.any_eq_true.2 ⟨(id, r), h, by simp⟩
 have h2 : List.filter (fun r => Nat.blt id r && !(lg.any fun e => Nat.beq e.1 id && Nat.beq e.2 r)) [r] = [] := by
  rw [List.filter_cons]
  simp [h1]
 rw [h2]
theorem dspan_c {H0 : List VObj} {d : Nat} (hd : d < H0.length) (u lo hi : Int) {L : List VObj} (lg : List (Nat × Nat)) (h0 : 0 ≤ lo) (h1 : lo ≤ hi) (h2 : hi ≤ 100000000) : VC Tryz.prog 26 [.ptr d 0, vi lo, vi hi] ⟨DH H0 d u L, lg⟩ (fun r M' => M' = ⟨DH H0 d (spU u lo hi) L, lg⟩ ∧ r = spV ⟨spA u lo hi, spC u lo hi⟩) := by
 rw [DH_base, DH_base (u := spU u lo hi)]
 exact dspan_v (by rw [List.length_append]; omega) u lo hi lg h0 h1 h2
structure YaA where
 u : Int
 rs : List Ra
structure YaB where
 u : Int
 cs : List Ct
 junk : List VObj
 lx : List (Nat × Nat)
structure YaC where
 u : Int
 k : Nat
 ps : List Int
attribute [local irreducible] castF castU fromF fromU oneF oneU spA spC spU
set_option maxHeartbeats 4000000 in
set_option maxRecDepth 8000 in
theorem yardOf_d {H0 : List VObj} {d : Nat} (hd : d < H0.length) (u : Int) (lg : List (Nat × Nat)) (A B m : Int) (hA : 1 ≤ A ∧ A ≤ 3) (hB : 0 ≤ B ∧ B ≤ 7) (hm : 4 ≤ m ∧ m ≤ 480) :
  VC Tryz.prog 7 [.ptr d 0, vi A, vi B, vi m] ⟨DH H0 d u [], lg⟩ (fun r M' => M' = ⟨DH H0 d (yardS u A B m).2 [], lg⟩ ∧ r = yardV (yardS u A B m).1) := by
 suffices hh : VC Tryz.prog 7 [.ptr d 0, vi A, vi B, vi m] ⟨DH H0 d u [], lg⟩ (fun r M' => ∃ (y : Ya) (u' : Int), M' = ⟨DH H0 d u' [], lg⟩ ∧ r = yardV y ∧ yardS u A B m = (y, u')) by
  refine hh.mono ?_
  rintro _ _ ⟨k, u', rfl, rfl, e⟩
  rw [e]
  exact ⟨rfl, rfl⟩
 have kq : 0 ≤ m ∧ m < 9223372036854775808 := by omega
 have kh : -9223372036854775808 ≤ m / 2 + 1 ∧ m / 2 + 1 < 9223372036854775808 := by omega
 have hH := halfM_bd hm.1
 have h3 := mostT3_bd hm.1
 have hY : yardS u A B m = yardS u A B m := rfl
 conv at hY => rhs; unfold yardS; dsimp only
 refine VC_own' T_ok (f := 7) (fn := Tryz.f7) (by kernel_rfl) rfl Tryz.ntmps7 (by rfl) (by rfl) ?_
 ((repeat refine Ws ?_);refine Wr ?_)
 simp (maxSteps := 1000000) only [VL,VM,↓VG,reduceIte,reduceCtorEq,zA,zB,zC,zD,zE,zF,zG,zH,zI,zJ, DH_app hd, DH_len, DH_len0, DH_get hd, DH_get0 hd, DH_set hd, DH_set0 hd, DH_setd, DH_die hd]
 ((repeat refine Ws ?_);refine Wr ?_)
 simp (maxSteps := 1000000) only [VL,VM,↓VG,reduceIte,reduceCtorEq,zA,zB,zC,zD,zE,zF,zG,zH,zI,zJ, DH_app hd, DH_len, DH_len0, DH_get hd, DH_get0 hd, DH_set hd, DH_set0 hd, DH_setd, DH_die hd]
 apply call_eq (f := 24) (fn := Tryz.f24) (by kernel_rfl) (by rfl)
 ·exact cast_c hd u 4 lg (by omega)
 generalize castF u 4 = s0 at hY ⊢
 generalize castU u 4 = v1 at hY ⊢
 simp (maxSteps := 1000000) only [VL,VM,↓VG,reduceIte,reduceCtorEq,zA,zB,zC,zD,zE,zF,zG,zH,zI,zJ, DH_app hd, DH_len, DH_len0, DH_get hd, DH_get0 hd, DH_set hd, DH_set0 hd, DH_setd, DH_die hd]
 apply call_eq (f := 23) (fn := Tryz.f23) (by kernel_rfl) (by rfl)
 ·exact one_c hd v1 [0, 0, s0] lg (by simp) (by simp)
 generalize oneF v1 [0, 0, s0] = sw at hY ⊢
 generalize oneU v1 [0, 0, s0] = v2 at hY ⊢
 simp (maxSteps := 1000000) only [VL,VM,↓VG,reduceIte,reduceCtorEq,zA,zB,zC,zD,zE,zF,zG,zH,zI,zJ, DH_app hd, DH_len, DH_len0, DH_get hd, DH_get0 hd, DH_set hd, DH_set0 hd, DH_setd, DH_die hd]
 refine W_ghost (id := H0.length + 1) (off := 0) (k := 3) (k0 := 0) (by rw [DH_get hd]; rfl) rfl ?_
 simp (maxSteps := 1000000) only [VL,VM,↓VG,reduceIte,reduceCtorEq,zA,zB,zC,zD,zE,zF,zG,zH,zI,zJ, DH_app hd, DH_len, DH_len0, DH_get hd, DH_get0 hd, DH_set hd, DH_set0 hd, DH_setd, DH_die hd]
 refine W_ghost (id := H0.length + 1) (off := 1) (k := 6) (k0 := 0) (by rw [DH_get hd]; rfl) rfl ?_
 simp (maxSteps := 1000000) only [VL,VM,↓VG,reduceIte,reduceCtorEq,zA,zB,zC,zD,zE,zF,zG,zH,zI,zJ, DH_app hd, DH_len, DH_len0, DH_get hd, DH_get0 hd, DH_set hd, DH_set0 hd, DH_setd, DH_die hd]
 obtain ⟨n, hn⟩ : ∃ n, H0.length = n := ⟨_, rfl⟩
 rw [hn] at hd ⊢
 obtain ⟨lgA, hlg⟩ : ∃ lgA, lgA = lg ++ [(n + 1, n + 2), (n + 1, n + 3)] := ⟨_, rfl⟩
 rw [← hlg]
 have A2 : addLg (n + 1) [n + 2] lgA = lgA := addLg_hasY (by rw [hlg]; simp)
 have dg : ∀ u L k, (DH H0 d u L)[n + k]? = L[k]? := fun u L k => by rw [← hn]; exact DH_get (hn ▸ hd) k
 have dg0 : ∀ u L, (DH H0 d u L)[n]? = L[0]? := fun u L => by rw [← hn]; exact DH_get0 (hn ▸ hd)
 have ds : ∀ u L k o, (DH H0 d u L).set (n + k) o = DH H0 d u (L.set k o) := fun u L k o => by rw [← hn]; exact DH_set (hn ▸ hd) k o
 have ds0 : ∀ u L o, (DH H0 d u L).set n o = DH H0 d u (L.set 0 o) := fun u L o => by rw [← hn]; exact DH_set0 (hn ▸ hd) o
 have dl : ∀ u L, (DH H0 d u L).length = n + L.length := fun u L => by rw [← hn]; exact DH_len
 have da : ∀ u L X, DH H0 d u L ++ X = DH H0 d u (L ++ X) := fun u L X => DH_app (hn ▸ hd) X
 have hd' : d < H0.length := by rw [hn]; exact hd
 have f1 := fromF_range (u := v2) (lo := 1) (hi := A) (by omega)
 ((repeat refine Ws ?_);refine Wr ?_)
 simp (maxSteps := 1000000) only [VL,VM,↓VG,reduceIte,reduceCtorEq,zA,zB,zC,zD,zE,zF,zG,zH,zI,zJ]
 apply call_eq (f := 25) (fn := Tryz.f25) (by kernel_rfl) (by rfl)
 ·exact from_c hd' v2 1 A lgA (by omega) (by omega) (by omega) (by omega)
 generalize fromF v2 1 A = w at f1 hY ⊢
 generalize fromU v2 1 A = v3 at hY ⊢
 obtain ⟨nr, rfl⟩ : ∃ k : Nat, w = (k : Int) := ⟨w.toNat, by omega⟩
 rw [Int.toNat_natCast] at hY
 have hnr : nr ≤ 3 := by omega
 simp (maxSteps := 1000000) only [VL,VM,↓VG,reduceIte,reduceCtorEq,zA,zB,zC,zD,zE,zF,zG,zH,zI,zJ]
 ((repeat refine Ws ?_);refine W_block ?_; (repeat refine Ws ?_)); refine W_loopS (fun s : YaA => [(0, .ptr d 0), (2, vi B), (3, vi m), (8, .ptr n 0), (9, .ptr (n + 1) 0), (10, vi ((nr : Int) - (s.rs.length : Int)))]) (fun s => ⟨DH H0 d s.u [.obj [.sf 0 [], .sf 0 [], vi 0], .obj [.so (n + 2) 3 (s.rs.map raP), .so (n + 3) 6 [], vi sw], .clm s.rs.length 3, .clm 0 6], lgA⟩) (fun s => nr - s.rs.length) (fun s => s.rs.length ≤ nr ∧ rampsS m v3 s.rs.length = (s.u, s.rs)) ⟨v3, []⟩ ⟨Nat.zero_le _, rfl⟩ ⟨rfl, rfl, rfl, rfl, rfl, by simp [get_cons], trivial⟩ rfl ?_
 rintro ⟨v, rs⟩ ⟨hrl, hrs⟩
 simp only at hrl hrs
 ((repeat refine Ws ?_);refine W_regionE T_ok ?_; intro Kn hKn)
 rcases Nat.lt_or_ge rs.length nr with hlt | hge
 ·have k2 : ((0 : Int) < (nr : Int) - (rs.length : Int)) = True := eq_true (by omega)
  have k3 : -9223372036854775808 ≤ (nr : Int) - (rs.length : Int) - 1 ∧ (nr : Int) - (rs.length : Int) - 1 < 9223372036854775808 := by omega
  have q1 : ((rs.length + 1) * 24 ≤ 140737488355328) = True := eq_true (by omega)
  ((simp (maxSteps := 1000000) only [VL,VM,↓VG,reduceIte,reduceCtorEq,zA,zB,zC,zD,zE,zF,zG,zH,zI,zJ, k2]); rw [hKn];clear hKn Kn;simp only [QV,reduceIte,reduceCtorEq,Nat.reduceEqDiff])
  ((repeat refine Ws ?_);refine Wt (by first|rfl|simp only [EV,zF,reduceIte]) ?_)
  (((repeat refine Ws ?_);refine W_skip ?_); simp only [QV,reduceIte,reduceCtorEq,Nat.reduceEqDiff])
  ((repeat refine Ws ?_);refine W_block ?_)
  have hst : rampsS m v3 (rs.length + 1) = rampS m (v, rs) := by rw [rampsS, hrs]
  unfold rampS at hst
  dsimp only at hst
  ((repeat refine Ws ?_);refine W_regionE T_ok ?_; intro Kn hKn)
  simp (maxSteps := 1000000) only [VL,VM,↓VG,reduceIte,reduceCtorEq,zA,zB,zC,zD,zE,zF,zG,zH,zI,zJ, kq, kh]
  apply call_eq (f := 24) (fn := Tryz.f24) (by kernel_rfl) (by rfl)
  ·exact cast_c hd' v (halfM m) lgA (by omega)
  have c1 := castF_range (u := v) (n := halfM m) (by omega)
  generalize castF v (halfM m) = a at c1 hst ⊢
  generalize castU v (halfM m) = v4 at hst ⊢
  simp (maxSteps := 1000000) only [VL,VM,↓VG,reduceIte,reduceCtorEq,zA,zB,zC,zD,zE,zF,zG,zH,zI,zJ]
  apply call_eq (f := 23) (fn := Tryz.f23) (by kernel_rfl) (by rfl)
  ·exact one_c hd' v4 [0, a] lgA (by simp) (by simp)
  have o1 := one2 (u := v4) (a := 0) (b := a)
  generalize oneF v4 [0, a] = o at o1 hst ⊢
  generalize oneU v4 [0, a] = v5 at hst ⊢
  have ho : 0 ≤ o ∧ o ≤ m := by omega
  clear o1 c1
  ((simp (maxSteps := 1000000) only [VL,VM,↓VG,reduceIte,reduceCtorEq,zA,zB,zC,zD,zE,zF,zG,zH,zI,zJ]); rw [hKn];clear hKn Kn;simp only [QV,reduceIte,reduceCtorEq,Nat.reduceEqDiff])
  (repeat refine Ws ?_)
  refine W_drawE T_ok [] (by kernel_rfl) (by kernel_rfl) ?_
  intro Kn hKn
  generalize hi : mkPlan _ = infs
  cbv at hi
  subst hi
  replace ho : 0 ≤ o ∧ o ≤ m := ho
  simp (maxSteps := 1000000) only [VL,VM,↓VG,reduceIte,reduceCtorEq,zA,zB,zC,zD,zE,zF,zG,zH,zI,zJ, dg, dg0, ds, ds0, dl, da]
  apply call_d (f := 25) (fn := Tryz.f25) (by kernel_rfl) (by rfl)
  ·exact from_c hd' v5 o m lgA (by omega) (by omega) (by omega) (by omega)
  generalize fromF v5 o m = f at hst ⊢
  generalize fromU v5 o m = v6 at hst ⊢
  simp (maxSteps := 1000000) only [VL,VM,↓VG,reduceIte,reduceCtorEq,zA,zB,zC,zD,zE,zF,zG,zH,zI,zJ, dg, dg0, ds, ds0, dl, da]
  apply call_d (f := 23) (fn := Tryz.f23) (by kernel_rfl) (by rfl)
  ·exact one_c hd' v6 [m, f] lgA (by simp) (by simp)
  generalize oneF v6 [m, f] = g at hst ⊢
  generalize oneU v6 [m, f] = v7 at hst ⊢
  simp (maxSteps := 1000000) only [VL,VM,↓VG,reduceIte,reduceCtorEq,zA,zB,zC,zD,zE,zF,zG,zH,zI,zJ, dg, dg0, ds, ds0, dl, da]
  apply call_d (f := 23) (fn := Tryz.f23) (by kernel_rfl) (by rfl)
  ·exact one_c hd' v7 [50, 99] lgA (by simp) (by simp)
  generalize oneF v7 [50, 99] = b at hst ⊢
  generalize oneU v7 [50, 99] = v8 at hst ⊢
  ((simp (maxSteps := 1000000) only [VL,VM,↓VG,reduceIte,reduceCtorEq,zA,zB,zC,zD,zE,zF,zG,zH,zI,zJ, dg, dg0, ds, ds0, dl, da, q1, A2]); rw [hKn];clear hKn Kn;simp only [QV,reduceIte,reduceCtorEq,Nat.reduceEqDiff])
  ((repeat refine Ws ?_);refine W_regionE T_ok ?_; intro Kn hKn)
  ((simp (maxSteps := 1000000) only [VL,VM,↓VG,reduceIte,reduceCtorEq,zA,zB,zC,zD,zE,zF,zG,zH,zI,zJ, k3]); rw [hKn];clear hKn Kn;simp only [QV,reduceIte,reduceCtorEq,Nat.reduceEqDiff])
  refine LoopK.mk ⟨v8, rs ++ [⟨o, g, b⟩]⟩ (by simp; omega) ⟨by simp; omega, ?_⟩ ⟨rfl, rfl, rfl, rfl, rfl, ?_, trivial⟩ (by simp)
  ·simpa using hst
  ·simp only [List.length_append, List.length_cons, List.length_nil]
   have e9 : (nr : Int) - (rs.length : Int) - 1 = (nr : Int) - ((rs.length + 1 : Nat) : Int) := by omega
   show vi ((nr : Int) - (rs.length : Int) - 1) = vi ((nr : Int) - ((rs.length + 1 : Nat) : Int))
   rw [e9]
 have k2 : ((0 : Int) < (nr : Int) - (rs.length : Int)) = False := eq_false (by omega)
 have hnl : rs.length = nr := by omega
 have hnr1 : rs.length ≤ 3 := by omega
 rw [hnl] at hrs
 rw [hrs] at hY
 dsimp only at hY
 ((simp (maxSteps := 1000000) only [VL,VM,↓VG,reduceIte,reduceCtorEq,zA,zB,zC,zD,zE,zF,zG,zH,zI,zJ, k2]); rw [hKn];clear hKn Kn;simp only [QV,reduceIte,reduceCtorEq,Nat.reduceEqDiff])
 ((repeat refine Ws ?_);refine Wf (by first|rfl|simp only [EV,zF,reduceIte]) ?_)
 (((repeat refine Ws ?_);refine W_exit ?_); simp only [QV,reduceIte,reduceCtorEq,Nat.reduceEqDiff])
 have kB : -9223372036854775808 ≤ B + 1 ∧ B + 1 < 9223372036854775808 := by omega
 have rd1 := castF_range (u := v) (n := B + 1) (by omega)
 ((repeat refine Ws ?_);refine Wr ?_)
 simp (maxSteps := 1000000) only [VL,VM,↓VG,reduceIte,reduceCtorEq,zA,zB,zC,zD,zE,zF,zG,zH,zI,zJ, kB]
 apply call_eq (f := 24) (fn := Tryz.f24) (by kernel_rfl) (by rfl)
 ·exact cast_c hd' v (B + 1) lgA (by omega)
 generalize castU v (B + 1) = u2 at hY ⊢
 generalize castF v (B + 1) = w at rd1 hY ⊢
 obtain ⟨nc, rfl⟩ : ∃ m : Nat, w = (m : Int) := ⟨w.toNat, by omega⟩
 have hnc : nc ≤ 7 := by omega
 rw [Int.toNat_natCast] at hY
 clear rd1 k2 hge hrl hrs f1 hnr
 simp (maxSteps := 1000000) only [VL,VM,↓VG,reduceIte,reduceCtorEq,zA,zB,zC,zD,zE,zF,zG,zH,zI,zJ]
 ((repeat refine Ws ?_);refine W_block ?_; (repeat refine Ws ?_)); refine W_loopS (fun s : YaB => [(0, .ptr d 0), (3, vi m), (8, .ptr n 0), (9, .ptr (n + 1) 0), (12, vi ((nc : Int) - (s.cs.length : Int)))]) (fun s => ⟨DH H0 d s.u (.obj [.sf 0 [], .sf 0 [], vi 0] :: .obj [.so (n + 2) 3 (rs.map raP), .so (n + 3) 6 (s.cs.map ctP), vi sw] :: .clm rs.length 3 :: .clm s.cs.length 6 :: s.junk), lgA ++ s.lx⟩) (fun s => nc - s.cs.length) (fun s => s.cs.length ≤ nc ∧ (∀ e ∈ s.lx, n ≤ e.1) ∧ cartsS m rs.length u2 s.cs.length = (s.u, s.cs)) ⟨u2, [], [], []⟩ ⟨Nat.zero_le _, (fun _ h => by cases h), rfl⟩ ⟨rfl, rfl, rfl, rfl, by simp [get_cons], trivial⟩ (by simp) ?_
 rintro ⟨v, cs, junk, lx⟩ ⟨hcl, hlx, hcs⟩
 simp only at hcl hlx hcs
 ((repeat refine Ws ?_);refine W_regionE T_ok ?_; intro Kn hKn)
 rcases Nat.lt_or_ge cs.length nc with hlt | hge
 rotate_left
 ·have k2 : ((0 : Int) < (nc : Int) - (cs.length : Int)) = False := eq_false (by omega)
  have hnl : cs.length = nc := by omega
  rw [hnl] at hcs
  rw [hcs] at hY
  dsimp only at hY
  ((simp (maxSteps := 1000000) only [VL,VM,↓VG,reduceIte,reduceCtorEq,zA,zB,zC,zD,zE,zF,zG,zH,zI,zJ, k2]); rw [hKn];clear hKn Kn;simp only [QV,reduceIte,reduceCtorEq,Nat.reduceEqDiff])
  ((repeat refine Ws ?_);refine Wf (by first|rfl|simp only [EV,zF,reduceIte]) ?_)
  (((repeat refine Ws ?_);refine W_exit ?_); simp only [QV,reduceIte,reduceCtorEq,Nat.reduceEqDiff])
  ((repeat refine Ws ?_);refine W_regionE T_ok ?_; intro Kn hKn)
  ((simp (maxSteps := 1000000) only [VL,VM,↓VG,reduceIte,reduceCtorEq,zA,zB,zC,zD,zE,zF,zG,zH,zI,zJ, dg, dg0, ds, ds0, dl, da]); rw [hKn];clear hKn Kn;simp only [QV,reduceIte,reduceCtorEq,Nat.reduceEqDiff])
  (repeat refine Ws ?_)
  refine W_ret ?_
  try simp only [thenQ, blockQ]
  refine ⟨.inr rfl, rfl, ⟨[(n + 1, n + 2), (n + 1, n + 3)] ++ lx, by rw [hlg, List.append_assoc], fun e he => ?_⟩, DH H0 d v [], _, DH_eq hd', by rw [DH_len, DH_len], [yardV ⟨rs, cs, sw⟩], ?_, yardV ⟨rs, cs, sw⟩, ?_, by simp [refs, refsL], ⟨rs, cs, sw⟩, v, rfl, rfl, hY⟩
  ·rw [DH_len]
   simp only [List.length_nil, Nat.add_zero]
   rw [hn]
   rcases List.mem_append.1 he with he | he
   ·simp only [List.mem_cons, List.not_mem_nil, or_false] at he
    rcases he with rfl | rfl <;> simp
   ·exact hlx e he
  ·simp [Tryz.f7, vresL, get_cons, vload, t_yard, dg0, nat_ble, strip1]
  ·simp [vtup, frz, frzL]
 have k2 : ((0 : Int) < (nc : Int) - (cs.length : Int)) = True := eq_true (by omega)
 have k3 : -9223372036854775808 ≤ (nc : Int) - (cs.length : Int) - 1 ∧ (nc : Int) - (cs.length : Int) - 1 < 9223372036854775808 := by omega
 have q1 : ((cs.length + 1) * 64 ≤ 140737488355328) = True := eq_true (by omega)
 ((simp (maxSteps := 1000000) only [VL,VM,↓VG,reduceIte,reduceCtorEq,zA,zB,zC,zD,zE,zF,zG,zH,zI,zJ, k2]); rw [hKn];clear hKn Kn;simp only [QV,reduceIte,reduceCtorEq,Nat.reduceEqDiff])
 ((repeat refine Ws ?_);refine Wt (by first|rfl|simp only [EV,zF,reduceIte]) ?_)
 (((repeat refine Ws ?_);refine W_skip ?_); simp only [QV,reduceIte,reduceCtorEq,Nat.reduceEqDiff])
 ((repeat refine Ws ?_);refine W_block ?_)
 have hst : cartsS m rs.length u2 (cs.length + 1) = cartS m rs.length (v, cs) := by rw [cartsS, hcs]
 unfold cartS at hst
 dsimp only at hst
 obtain ⟨L1, hL1⟩ : ∃ L1, L1 = VObj.obj [.sf 0 [], .sf 0 [], vi 0] :: .obj [.so (n + 2) 3 (rs.map raP), .so (n + 3) 6 (cs.map ctP), vi sw] :: .clm rs.length 3 :: .clm cs.length 6 :: junk := ⟨_, rfl⟩
 obtain ⟨H1, hH1⟩ : ∃ H1, H1 = H0 ++ L1 := ⟨_, rfl⟩
 have hd1 : d < H1.length := by rw [hH1, List.length_append]; omega
 have gy : ∀ u L, (DH H1 d u L)[n + 1]? = some (VObj.obj [.so (n + 2) 3 (rs.map raP), .so (n + 3) 6 (cs.map ctP), vi sw]) := fun u L => by
  have : DH H1 d u L = DH H0 d u (L1 ++ L) := by rw [hH1, DH_base, List.append_assoc, ← DH_base]
  rw [this, dg, hL1]; rfl
 have hl1 : n + 4 ≤ H1.length := by rw [hH1, List.length_append, hn, hL1]; simp
 rw [← hL1, show DH H0 d v L1 = DH H1 d v [] by rw [hH1, DH_base]]
 have A3 : addLg (n + 1) [n + 3] (lgA ++ (lx ++ [(H1.length, H1.length + 1)])) = lgA ++ (lx ++ [(H1.length, H1.length + 1)]) := addLg_hasY (by rw [hlg]; simp)
 have A4 : addLg H1.length [H1.length + 1] (lgA ++ (lx ++ [(H1.length, H1.length + 1)])) = lgA ++ (lx ++ [(H1.length, H1.length + 1)]) := addLg_hasY (by simp)
 have kt : 0 ≤ m ∧ m < 9223372036854775808 := kq
 ((repeat refine Ws ?_);refine Wr ?_)
 simp (maxSteps := 1000000) only [VL,VM,↓VG,reduceIte,reduceCtorEq,zA,zB,zC,zD,zE,zF,zG,zH,zI,zJ, kq, kh, DH_app hd1, DH_len, DH_len0, DH_get hd1, DH_get0 hd1, DH_set hd1, DH_set0 hd1]
 apply call_eq (f := 24) (fn := Tryz.f24) (by kernel_rfl) (by rfl)
 ·exact cast_c hd1 v (halfM m) _ (by omega)
 have c1 := castF_range (u := v) (n := halfM m) (by omega)
 generalize castF v (halfM m) = a at c1 hst ⊢
 generalize castU v (halfM m) = v4 at hst ⊢
 simp (maxSteps := 1000000) only [VL,VM,↓VG,reduceIte,reduceCtorEq,zA,zB,zC,zD,zE,zF,zG,zH,zI,zJ]
 apply call_eq (f := 23) (fn := Tryz.f23) (by kernel_rfl) (by rfl)
 ·exact one_c hd1 v4 [0, a] _ (by simp) (by simp)
 have o1 := one2 (u := v4) (a := 0) (b := a)
 generalize oneF v4 [0, a] = f at o1 hst ⊢
 generalize oneU v4 [0, a] = v5 at hst ⊢
 have ho : 0 ≤ f ∧ f ≤ m := by omega
 clear o1 c1
 simp (maxSteps := 1000000) only [VL,VM,↓VG,reduceIte,reduceCtorEq,zA,zB,zC,zD,zE,zF,zG,zH,zI,zJ, kq]
 apply call_eq (f := 23) (fn := Tryz.f23) (by kernel_rfl) (by rfl)
 ·exact one_c hd1 v5 [3, mostT3 m] _ (by simp) (by simp)
 have o2 := one2 (u := v5) (a := 3) (b := mostT3 m)
 generalize oneF v5 [3, mostT3 m] = t at o2 hst ⊢
 generalize oneU v5 [3, mostT3 m] = v6 at hst ⊢
 have ht : 1 ≤ t ∧ t ≤ m := by omega
 clear o2
 simp (maxSteps := 1000000) only [VL,VM,↓VG,reduceIte,reduceCtorEq,zA,zB,zC,zD,zE,zF,zG,zH,zI,zJ]
 apply call_eq (f := 26) (fn := Tryz.f26) (by kernel_rfl) (by rfl)
 ·exact dspan_c hd1 v6 1 t _ (by omega) (by omega) (by omega)
 generalize spA v6 1 t = lo at hst ⊢
 generalize spC v6 1 t = hi at hst ⊢
 generalize spU v6 1 t = v7 at hst ⊢
 simp (maxSteps := 1000000) only [VL,VM,↓VG,reduceIte,reduceCtorEq,zA,zB,zC,zD,zE,zF,zG,zH,zI,zJ]
 apply call_eq (f := 24) (fn := Tryz.f24) (by kernel_rfl) (by rfl)
 ·exact cast_c hd1 v7 50 _ (by omega)
 generalize castF v7 50 = g1 at hst ⊢
 generalize castU v7 50 = v8 at hst ⊢
 simp (maxSteps := 1000000) only [VL,VM,↓VG,reduceIte,reduceCtorEq,zA,zB,zC,zD,zE,zF,zG,zH,zI,zJ]
 apply call_eq (f := 24) (fn := Tryz.f24) (by kernel_rfl) (by rfl)
 ·exact cast_c hd1 v8 100 _ (by omega)
 generalize castF v8 100 = g2 at hst ⊢
 generalize castU v8 100 = v9 at hst ⊢
 simp (maxSteps := 1000000) only [VL,VM,↓VG,reduceIte,reduceCtorEq,zA,zB,zC,zD,zE,zF,zG,zH,zI,zJ]
 apply call_eq (f := 23) (fn := Tryz.f23) (by kernel_rfl) (by rfl)
 ·exact one_c hd1 v9 [g1, g2] _ (by simp) (by simp)
 generalize oneF v9 [g1, g2] = g at hst ⊢
 generalize oneU v9 [g1, g2] = v10 at hst ⊢
 simp (maxSteps := 1000000) only [VL,VM,↓VG,reduceIte,reduceCtorEq,zA,zB,zC,zD,zE,zF,zG,zH,zI,zJ, DH_app hd1, DH_len, DH_len0, DH_get hd1, DH_get0 hd1, DH_set hd1, DH_set0 hd1]
 ((repeat refine Ws ?_);refine Wr ?_)
 simp (maxSteps := 1000000) only [VL,VM,↓VG,reduceIte,reduceCtorEq,zA,zB,zC,zD,zE,zF,zG,zH,zI,zJ, DH_app hd1, DH_len, DH_len0, DH_get hd1, DH_get0 hd1, DH_set hd1, DH_set0 hd1]
 apply call_eq (f := 25) (fn := Tryz.f25) (by kernel_rfl) (by rfl)
 ·exact from_c hd1 v10 f m _ (by omega) (by omega) (by omega) (by omega)
 generalize fromF v10 f m = w at hst ⊢
 generalize fromU v10 f m = v11 at hst ⊢
 simp (maxSteps := 1000000) only [VL,VM,↓VG,reduceIte,reduceCtorEq,zA,zB,zC,zD,zE,zF,zG,zH,zI,zJ]
 apply call_eq (f := 23) (fn := Tryz.f23) (by kernel_rfl) (by rfl)
 ·exact one_c hd1 v11 [m, w] _ (by simp) (by simp)
 generalize oneF v11 [m, w] = un at hst ⊢
 generalize oneU v11 [m, w] = v12 at hst ⊢
 simp (maxSteps := 1000000) only [VL,VM,↓VG,reduceIte,reduceCtorEq,zA,zB,zC,zD,zE,zF,zG,zH,zI,zJ, DH_app hd1, DH_len, DH_len0, DH_get hd1, DH_get0 hd1, DH_set hd1, DH_set0 hd1]
 refine W_ghost (id := H1.length) (off := 5) (k := 1) (k0 := 0) (by rw [DH_get0 hd1]; rfl) rfl ?_
 simp (maxSteps := 1000000) only [VL,VM,↓VG,reduceIte,reduceCtorEq,zA,zB,zC,zD,zE,zF,zG,zH,zI,zJ, DH_app hd1, DH_len, DH_len0, DH_get hd1, DH_get0 hd1, DH_set hd1, DH_set0 hd1]
 ((repeat refine Ws ?_);refine Wr ?_)
 simp (maxSteps := 1000000) only [VL,VM,↓VG,reduceIte,reduceCtorEq,zA,zB,zC,zD,zE,zF,zG,zH,zI,zJ]
 ((repeat refine Ws ?_);refine W_block ?_; (repeat refine Ws ?_)); refine W_loopS (fun s : YaC => [(0, .ptr d 0), (3, vi m), (8, .ptr n 0), (9, .ptr (n + 1) 0), (12, vi ((nc : Int) - (cs.length : Int))), (13, .ptr H1.length 0), (14, vi s.k)]) (fun s => ⟨DH H1 d s.u [.obj [vi f, vi un, vi lo, vi hi, vi g, .so (H1.length + 1) 1 (s.ps.map intP)], .clm s.ps.length 1], lgA ++ (lx ++ [(H1.length, H1.length + 1)])⟩) (fun s => rs.length - s.k) (fun s => s.k ≤ rs.length ∧ pickS v12 s.k = (s.u, s.ps)) ⟨v12, 0, []⟩ ⟨Nat.zero_le _, rfl⟩ ⟨rfl, rfl, rfl, rfl, rfl, rfl, rfl, trivial⟩ (by simp) ?_
 rintro ⟨x, k, ps⟩ ⟨hk, hps⟩
 simp only at hk hps
 have z1 : -9223372036854775808 ≤ (k : Int) + 1 ∧ (k : Int) + 1 < 9223372036854775808 := by omega
 ((repeat refine Ws ?_);refine W_regionE T_ok ?_; intro Kn hKn)
 rcases Nat.lt_or_ge k rs.length with hlk | hgk
 ·have z2 : ((k : Int) < (rs.length : Int)) = True := eq_true (by omega)
  ((simp (maxSteps := 1000000) only [VL,VM,↓VG,reduceIte,reduceCtorEq,zA,zB,zC,zD,zE,zF,zG,zH,zI,zJ, gy, z2]); rw [hKn];clear hKn Kn;simp only [QV,reduceIte,reduceCtorEq,Nat.reduceEqDiff])
  ((repeat refine Ws ?_);refine Wt (by first|rfl|simp only [EV,zF,reduceIte]) ?_)
  (((repeat refine Ws ?_);refine W_skip ?_); simp only [QV,reduceIte,reduceCtorEq,Nat.reduceEqDiff])
  ((repeat refine Ws ?_);refine W_block ?_)
  ((repeat refine Ws ?_);refine W_regionE T_ok ?_; intro Kn hKn)
  simp (maxSteps := 1000000) only [VL,VM,↓VG,reduceIte,reduceCtorEq,zA,zB,zC,zD,zE,zF,zG,zH,zI,zJ]
  apply call_eq (f := 24) (fn := Tryz.f24) (by kernel_rfl) (by rfl)
  ·exact cast_c hd1 x 4 _ (by omega)
  have hst2 : pickS v12 (k + 1) = (castU x 4, if 0 < castF x 4 then ps ++ [(k : Int)] else ps) := by rw [pickS, hps]
  generalize castF x 4 = b at hst2 ⊢
  generalize castU x 4 = x2 at hst2 ⊢
  have hpl : ps.length ≤ 3 := by
   have := (pickS_bd v12 k).1
   rw [hps] at this
   simp only at this
   omega
  have q2 : ((ps.length + 1) * 8 ≤ 140737488355328) = True := eq_true (by omega)
  by_cases hb : 0 < b
  ·rw [if_pos hb] at hst2
   ((simp (maxSteps := 1000000) only [VL,VM,↓VG,reduceIte,reduceCtorEq,zA,zB,zC,zD,zE,zF,zG,zH,zI,zJ, hb]); rw [hKn];clear hKn Kn;simp only [QV,reduceIte,reduceCtorEq,Nat.reduceEqDiff])
   ((repeat refine Ws ?_);refine Wt (by first|rfl|simp only [EV,zF,reduceIte]) ?_)
   ((repeat refine Ws ?_);refine W_regionE T_ok ?_; intro Kn hKn)
   ((simp (maxSteps := 1000000) only [VL,VM,↓VG,reduceIte,reduceCtorEq,zA,zB,zC,zD,zE,zF,zG,zH,zI,zJ, DH_app hd1, DH_len, DH_len0, DH_get hd1, DH_get0 hd1, DH_set hd1, DH_set0 hd1, q2, A4]); rw [hKn];clear hKn Kn;simp only [QV,reduceIte,reduceCtorEq,Nat.reduceEqDiff])
   ((repeat refine Ws ?_);refine W_regionE T_ok ?_; intro Kn hKn)
   ((simp (maxSteps := 1000000) only [VL,VM,↓VG,reduceIte,reduceCtorEq,zA,zB,zC,zD,zE,zF,zG,zH,zI,zJ, z1]); rw [hKn];clear hKn Kn;simp only [QV,reduceIte,reduceCtorEq,Nat.reduceEqDiff])
   refine LoopK.mk ⟨x2, k + 1, ps ++ [(k : Int)]⟩ (by simp only; omega) ⟨by simp only; omega, hst2⟩ ⟨rfl, rfl, rfl, rfl, rfl, rfl, rfl, trivial⟩ (by simp)
  ·rw [if_neg hb] at hst2
   ((simp (maxSteps := 1000000) only [VL,VM,↓VG,reduceIte,reduceCtorEq,zA,zB,zC,zD,zE,zF,zG,zH,zI,zJ, hb]); rw [hKn];clear hKn Kn;simp only [QV,reduceIte,reduceCtorEq,Nat.reduceEqDiff])
   ((repeat refine Ws ?_);refine Wf (by first|rfl|simp only [EV,zF,reduceIte]) ?_)
   (((repeat refine Ws ?_);refine W_skip ?_); simp only [QV,reduceIte,reduceCtorEq,Nat.reduceEqDiff])
   ((repeat refine Ws ?_);refine W_regionE T_ok ?_; intro Kn hKn)
   ((simp (maxSteps := 1000000) only [VL,VM,↓VG,reduceIte,reduceCtorEq,zA,zB,zC,zD,zE,zF,zG,zH,zI,zJ, z1]); rw [hKn];clear hKn Kn;simp only [QV,reduceIte,reduceCtorEq,Nat.reduceEqDiff])
   refine LoopK.mk ⟨x2, k + 1, ps⟩ (by simp only; omega) ⟨by simp only; omega, hst2⟩ ⟨rfl, rfl, rfl, rfl, rfl, rfl, rfl, trivial⟩ rfl
 have z2 : ((k : Int) < (rs.length : Int)) = False := eq_false (by omega)
 obtain rfl : k = rs.length := by omega
 ((simp (maxSteps := 1000000) only [VL,VM,↓VG,reduceIte,reduceCtorEq,zA,zB,zC,zD,zE,zF,zG,zH,zI,zJ, gy, z2]); rw [hKn];clear hKn Kn;simp only [QV,reduceIte,reduceCtorEq,Nat.reduceEqDiff])
 ((repeat refine Ws ?_);refine Wf (by first|rfl|simp only [EV,zF,reduceIte]) ?_)
 (((repeat refine Ws ?_);refine W_exit ?_); simp only [QV,reduceIte,reduceCtorEq,Nat.reduceEqDiff])
 obtain ⟨cc, hcc⟩ : ∃ cc : Ct, cc = ⟨f, un, ⟨lo, hi⟩, g, ps⟩ := ⟨_, rfl⟩
 rw [hps] at hst
 simp only at hst
 rw [← hcc] at hst
 have back : DH H1 d x [.obj [vi f, vi un, vi lo, vi hi, vi g, .so (H1.length + 1) 1 (ps.map intP)], .clm ps.length 1] = DH H0 d x (.obj [.sf 0 [], .sf 0 [], vi 0] :: .obj [.so (n + 2) 3 (rs.map raP), .so (n + 3) 6 (cs.map ctP), vi sw] :: .clm rs.length 3 :: .clm cs.length 6 :: (junk ++ [.obj [vi f, vi un, vi lo, vi hi, vi g, .so (H1.length + 1) 1 (ps.map intP)], .clm ps.length 1])) := by
  rw [hH1, DH_base, List.append_assoc, ← DH_base, hL1]; rfl
 have g13 : (DH H1 d x [.obj [vi f, vi un, vi lo, vi hi, vi g, .so (H1.length + 1) 1 (ps.map intP)], .clm ps.length 1])[H1.length]? = some (VObj.obj [vi f, vi un, vi lo, vi hi, vi g, .so (H1.length + 1) 1 (ps.map intP)]) := by rw [DH_get0 hd1]; rfl
 rw [back] at g13 ⊢
 have hct : [vi f, vi un, vi lo, vi hi, vi g, .p (.sl 1 (ps.map intP))] = ctC cc := by rw [hcc]
 ((repeat refine Ws ?_);refine W_regionE T_ok ?_; intro Kn hKn)
 ((simp (maxSteps := 1000000) only [VL,VM,↓VG,reduceIte,reduceCtorEq,zA,zB,zC,zD,zE,zF,zG,zH,zI,zJ, dg, dg0, ds, ds0, dl, da, g13, q1, A3]); rw [hKn];clear hKn Kn;simp only [QV,reduceIte,reduceCtorEq,Nat.reduceEqDiff])
 ((repeat refine Ws ?_);refine W_regionE T_ok ?_; intro Kn hKn)
 ((simp (maxSteps := 1000000) only [VL,VM,↓VG,reduceIte,reduceCtorEq,zA,zB,zC,zD,zE,zF,zG,zH,zI,zJ, k3]); rw [hKn];clear hKn Kn;simp only [QV,reduceIte,reduceCtorEq,Nat.reduceEqDiff])
 refine LoopK.mk ⟨x, cs ++ [cc], junk ++ [.obj [vi f, vi un, vi lo, vi hi, vi g, .so (H1.length + 1) 1 (ps.map intP)], .clm ps.length 1], lx ++ [(H1.length, H1.length + 1)]⟩ (by simp; omega) ⟨by simp; omega, fun e he => ?_, ?_⟩ ⟨rfl, rfl, rfl, rfl, ?_, trivial⟩ ?_
 ·rcases List.mem_append.1 he with he | he
  ·exact hlx e he
  ·rw [List.mem_singleton] at he
   subst he
   show n ≤ H1.length
   omega
 ·simpa using hst
 ·simp only [List.length_append, List.length_cons, List.length_nil]
  have e9 : (nc : Int) - (cs.length : Int) - 1 = (nc : Int) - ((cs.length + 1 : Nat) : Int) := by omega
  show vi ((nc : Int) - (cs.length : Int) - 1) = vi ((nc : Int) - ((cs.length + 1 : Nat) : Int))
  rw [e9]
 ·rw [hcc]; simp
end Go.Proofs.YtmiiipdgbkipjaaGreatDoor.Vm

/- Plain: the roster of a yard. -/
namespace Go.Proofs.YtmiiipdgbkipjaaGreatDoor
open Go
def wYard : By := [121, 97, 114, 100]
def wRamp : By := [114, 97, 109, 112]
def wCart : By := [99, 97, 114, 116]
def wEnd : By := [101, 110, 100]
def numsS (l : List Int) : By := l.flatMap fun n => 32 :: Lib.itoa n
def rowS (w : By) (l : List Int) : By := w ++ numsS l ++ [10]
def raL (r : Ra) : List Int := [r.open_, r.shut, r.bears]
def ctL (c : Ct) : List Int := [c.from_, c.until_, c.takes.lo, c.takes.hi, c.grams] ++ c.ramps
def writeS (y : Ya) : By := rowS wYard [y.sweep] ++ (y.ramps.flatMap fun r => rowS wRamp (raL r)) ++ (y.carts.flatMap fun c => rowS wCart (ctL c)) ++ rowS wEnd [(y.carts.length : Int)]
theorem numsS_take {l : List Int} {i : Nat} (h : i < l.length) : numsS (l.take (i + 1)) = numsS (l.take i) ++ (32 :: Lib.itoa l[i]) := by
 rw [List.take_succ_eq_append_getElem h]
 unfold numsS
 rw [List.flatMap_append]
 simp
theorem itoa_len {n : Int} (h0 : -9223372036854775808 ≤ n) (h1 : n ≤ 9223372036854775807) : (Lib.itoa n).length ≤ 21 := Lib.itoa_length_le n h0 h1
def FitL (l : List Int) : Prop := ∀ n ∈ l, -9223372036854775808 ≤ n ∧ n ≤ 9223372036854775807
theorem numsS_len : ∀ {l : List Int}, FitL l → (numsS l).length ≤ 22 * l.length
 | [], _ => by simp [numsS]
 | n :: l, h => by
  have h1 := itoa_len (h n (by simp)).1 (h n (by simp)).2
  have h2 := numsS_len (l := l) fun x hx => h x (List.mem_cons_of_mem _ hx)
  unfold numsS at h2 ⊢
  rw [List.flatMap_cons, List.length_append, List.length_cons, List.length_cons]
  omega
theorem FitL.take {l : List Int} (h : FitL l) (i : Nat) : FitL (l.take i) := fun n hn => h n (List.mem_of_mem_take hn)
theorem rowS_len {w : By} {l : List Int} (h : FitL l) : (rowS w l).length ≤ w.length + 22 * l.length + 1 := by
 have := numsS_len h
 unfold rowS
 rw [List.length_append, List.length_append, List.length_singleton]
 omega
theorem byF_len {α : Type} {f : α → By} {k : Nat} : ∀ {l : List α}, (∀ r ∈ l, (f r).length ≤ k) → (l.flatMap f).length ≤ k * l.length
 | [], _ => by simp
 | r :: l, h => by
  have h1 := h r (by simp)
  have h2 := byF_len (f := f) (l := l) fun x hx => h x (List.mem_cons_of_mem _ hx)
  rw [List.flatMap_cons, List.length_append, List.length_cons, Nat.mul_add]
  omega
theorem byF_take {α : Type} {f : α → By} {l : List α} {i : Nat} (h : i < l.length) : (l.take (i + 1)).flatMap f = (l.take i).flatMap f ++ f l[i] := by
 rw [List.take_succ_eq_append_getElem h, List.flatMap_append]
 simp
theorem asc_short : ∀ {l : List Int} {a b : Int}, l.Pairwise (· < ·) → (∀ x ∈ l, a ≤ x ∧ x < b) → l.length ≤ (b - a).toNat
 | [], a, b, _, _ => Nat.zero_le _
 | x :: l, a, b, h, hb => by
  obtain ⟨h1, h2⟩ := List.pairwise_cons.1 h
  have hx := hb x (by simp)
  have := asc_short (l := l) (a := x + 1) (b := b) h2 fun z hz => ⟨by have := h1 z hz; omega, (hb z (by simp [hz])).2⟩
  rw [List.length_cons]
  omega
theorem raV_fit {r : Ra} (h : RaV r) : FitL (raL r) := by
 intro n hn
 have := h.o0; have := h.os; have := h.s1; have := h.b0; have := h.b1
 simp only [raL, List.mem_cons, List.not_mem_nil, or_false] at hn
 omega
theorem ctV_short {nr : Nat} {c : Ct} (h : CtV nr c) : c.ramps.length ≤ nr := by
 have := asc_short (a := 0) (b := nr) h.asc h.r
 omega
theorem ctV_fit {nr : Nat} {c : Ct} (h : CtV nr c) (hn : nr ≤ 3) : FitL (ctL c) := by
 intro n hm
 have := h.f0; have := h.fu; have := h.u1; have := h.l0; have := h.lh; have := h.h1; have := h.g0; have := h.g1
 simp only [ctL, List.cons_append, List.nil_append, List.mem_cons, List.not_mem_nil, or_false] at hm
 rcases hm with h1 | h1 | h1 | h1 | h1 | h1
 ·omega
 ·omega
 ·omega
 ·omega
 ·omega
 ·have := h.r n h1; omega
theorem raRow_len {r : Ra} (h : RaV r) : (rowS wRamp (raL r)).length ≤ 100 := by
 have := rowS_len (w := wRamp) (raV_fit h)
 simp only [raL, wRamp, List.length_cons, List.length_nil] at this
 simp only [raL, wRamp]
 omega
theorem ctRow_len {nr : Nat} {c : Ct} (h : CtV nr c) (hn : nr ≤ 3) : (rowS wCart (ctL c)).length ≤ 200 := by
 have := rowS_len (w := wCart) (ctV_fit h hn)
 have h2 := ctV_short h
 have h3 : (ctL c).length = 5 + c.ramps.length := by simp [ctL]; omega
 rw [h3] at this
 have h4 : wCart.length = 4 := rfl
 omega
end Go.Proofs.YtmiiipdgbkipjaaGreatDoor

/- The reference's row and Write, on values. (Vm) -/
namespace Go.Proofs.YtmiiipdgbkipjaaGreatDoor.Vm
open Go Go.Proofs
theorem lit32 : (⟨#[32]⟩ : ByteArray) = tx [32] := rfl
theorem lit10 : (⟨#[10]⟩ : ByteArray) = tx [10] := rfl
theorem rrow_v (w : By) (l : List Int) (M : Mem) (hl : l.length ≤ 1000000) (hw : w.length ≤ 1000000) (hf : FitL l) : VC Tryz.prog 34 [vs w, intsV l] M (fun r M' => M' = M ∧ r = vs (rowS w l)) := by
 refine VC_own' T_ok (f := 34) (fn := Tryz.f34) (by kernel_rfl) rfl Tryz.ntmps34 (by rfl) (by rfl) ?_
 ((repeat refine Ws ?_);refine W_regionE T_ok ?_; intro Kn hKn)
 ((simp (maxSteps := 1000000) only [VL,VM,↓VG,reduceIte,reduceCtorEq,zA,zB,zC,zD,zE,zF,zG,zH,zI,zJ]); rw [hKn];clear hKn Kn;simp only [QV,reduceIte,reduceCtorEq,Nat.reduceEqDiff])
 ((repeat refine Ws ?_);refine W_regionE T_ok ?_; intro Kn hKn)
 ((simp (maxSteps := 1000000) only [VL,VM,↓VG,reduceIte,reduceCtorEq,zA,zB,zC,zD,zE,zF,zG,zH,zI,zJ]); rw [hKn];clear hKn Kn;simp only [QV,reduceIte,reduceCtorEq,Nat.reduceEqDiff])
 ((repeat refine Ws ?_);refine W_block ?_; (repeat refine Ws ?_)); refine W_loopS (fun s : Nat => [(0, vs (w ++ numsS (l.take s))), (1, intsV l), (5, vi s)]) (fun s => M) (fun s => l.length - s) (fun s => s ≤ l.length) 0 (Nat.zero_le _) ⟨by simp [numsS, get_cons, zipEnv], rfl, rfl, trivial⟩ (by simp) ?_
 intro i hi
 have k1 : -9223372036854775808 ≤ (i : Int) + 1 ∧ (i : Int) + 1 < 9223372036854775808 := by omega
 ((repeat refine Ws ?_);refine W_regionE T_ok ?_; intro Kn hKn)
 rcases Nat.lt_or_ge i l.length with hlt | hge
 ·have k2 : ((i : Int) < (l.length : Int)) = True := eq_true (by omega)
  have hx := map_at (f := intP) (List.getElem?_eq_getElem hlt)
  have hm := hf _ (List.getElem_mem hlt)
  have key := numsS_take hlt
  have b1 := numsS_len (hf.take i)
  rw [List.length_take] at b1
  have b2 := itoa_len hm.1 hm.2
  have q1 := v_addS 9 (w ++ numsS (l.take i)) [32] (by rw [List.length_append]; simp; omega)
  have q2 := v_addS 9 (w ++ (numsS (l.take i) ++ [32])) (Lib.itoa l[i]) (by rw [List.length_append, List.length_append]; simp; omega)
  ((simp (maxSteps := 1000000) only [VL,VM,↓VG,reduceIte,reduceCtorEq,zA,zB,zC,zD,zE,zF,zG,zH,zI,zJ, k2]); rw [hKn];clear hKn Kn;simp only [QV,reduceIte,reduceCtorEq,Nat.reduceEqDiff])
  ((repeat refine Ws ?_);refine Wt (by first|rfl|simp only [EV,zF,reduceIte]) ?_)
  (((repeat refine Ws ?_);refine W_skip ?_); simp only [QV,reduceIte,reduceCtorEq,Nat.reduceEqDiff])
  ((repeat refine Ws ?_);refine W_block ?_)
  ((repeat refine Ws ?_);refine W_regionE T_ok ?_; intro Kn hKn)
  simp (maxSteps := 1000000) only [VL,VM,↓VG,reduceIte,reduceCtorEq,zA,zB,zC,zD,zE,zF,zG,zH,zI,zJ, hx, lit32, q1]
  apply call_eq (f := 31) (fn := Tryz.f31) (by kernel_rfl) (by rfl)
  ·exact itoa_v hm.1 hm.2 _
  ((simp (maxSteps := 1000000) only [VL,VM,↓VG,reduceIte,reduceCtorEq,zA,zB,zC,zD,zE,zF,zG,zH,zI,zJ, q2]); rw [hKn];clear hKn Kn;simp only [QV,reduceIte,reduceCtorEq,Nat.reduceEqDiff])
  ((repeat refine Ws ?_);refine W_regionE T_ok ?_; intro Kn hKn)
  ((simp (maxSteps := 1000000) only [VL,VM,↓VG,reduceIte,reduceCtorEq,zA,zB,zC,zD,zE,zF,zG,zH,zI,zJ, k1]); rw [hKn];clear hKn Kn;simp only [QV,reduceIte,reduceCtorEq,Nat.reduceEqDiff])
  refine LoopK.mk (i + 1) (by omega) (by omega) ⟨?_, rfl, rfl, trivial⟩ rfl
  rw [key]; simp [get_cons]
 ·have k2 : ((i : Int) < (l.length : Int)) = False := eq_false (by omega)
  obtain rfl : i = l.length := by omega
  ((simp (maxSteps := 1000000) only [VL,VM,↓VG,reduceIte,reduceCtorEq,zA,zB,zC,zD,zE,zF,zG,zH,zI,zJ, k2]); rw [hKn];clear hKn Kn;simp only [QV,reduceIte,reduceCtorEq,Nat.reduceEqDiff])
  ((repeat refine Ws ?_);refine Wf (by first|rfl|simp only [EV,zF,reduceIte]) ?_)
  (((repeat refine Ws ?_);refine W_exit ?_); simp only [QV,reduceIte,reduceCtorEq,Nat.reduceEqDiff])
  ((repeat refine Ws ?_);refine W_regionE T_ok ?_; intro Kn hKn)
  have b1 := numsS_len hf
  have q1 := v_addS 9 (w ++ numsS l) [10] (by rw [List.length_append]; simp; omega)
  ((simp (maxSteps := 1000000) only [VL,VM,↓VG,reduceIte,reduceCtorEq,zA,zB,zC,zD,zE,zF,zG,zH,zI,zJ, lit10, List.take_length, q1]); rw [hKn];clear hKn Kn;simp only [QV,reduceIte,reduceCtorEq,Nat.reduceEqDiff])
  (repeat refine Ws ?_)
  refine W_ret ?_
  try simp only [thenQ, blockQ]
  refine own_ret10 rfl ?_ (by rfl)
  simp only [get_cons, frz, vtup, Nat.reduceEqDiff, if_true, if_false, reduceIte]
  simp only [rowS, List.append_assoc]
end Go.Proofs.YtmiiipdgbkipjaaGreatDoor.Vm
