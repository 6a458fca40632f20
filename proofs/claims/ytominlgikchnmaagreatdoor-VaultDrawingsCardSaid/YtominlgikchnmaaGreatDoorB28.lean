/- A part of the proofs about the chapter of the vaults; it states no condition of its own. -/
import Derived.Test.YtominlgikchnmaaGreatDoorB24
set_option linter.unusedVariables false
set_option linter.unusedSimpArgs false
open Int renaming reduceLE → zA, reduceLT → zB, reduceToNat → zC, reduceNeg → zD
open Nat renaming reduceLT → zE, reduceEqDiff → zF, reduceAdd → zG, reduceSub → zH, reduceMul → zI, reduceLeDiff → zJ
/- Halls made of numbers, as a function of the numbers, in plain Lean. (Vm) -/
namespace Go.Proofs.YtominlgikchnmaaGreatDoor.Vm
open Go Go.Proofs
def cellS (s : Int × List Pl × List Pl) (c : Pl) : Int × List Pl × List Pl :=
 (castU (castU s.1 2) 7, if onceF s.1 2 then s.2.1 ++ [c] else s.2.1, if onceF (castU s.1 2) 7 then s.2.2 ++ [c] else s.2.2)
def cellsF (l : List Pl) (u : Int) : Int × List Pl × List Pl := l.foldl cellS (u, [], [])
theorem cellsF_take {l : List Pl} {i : Nat} {c : Pl} (h : l[i]? = some c) (u : Int) : cellsF (l.take (i + 1)) u = cellS (cellsF (l.take i) u) c := by
 unfold cellsF
 rw [List.take_add_one, h, List.foldl_append]
 rfl
theorem cellS_sub {l : List Pl} {s : Int × List Pl × List Pl} (h : s.2.1.Sublist l ∧ s.2.2.Sublist l) (c : Pl) : (cellS s c).2.1.Sublist (l ++ [c]) ∧ (cellS s c).2.2.Sublist (l ++ [c]) := by
 unfold cellS
 refine ⟨?_, ?_⟩
 ·simp only
  split
  ·exact h.1.append (List.Sublist.refl _)
  ·exact h.1.trans (List.sublist_append_left _ _)
 ·simp only
  split
  ·exact h.2.append (List.Sublist.refl _)
  ·exact h.2.trans (List.sublist_append_left _ _)
theorem cellsF_sub (l : List Pl) (u : Int) : ∀ i, i ≤ l.length → (cellsF (l.take i) u).2.1.Sublist (l.take i) ∧ (cellsF (l.take i) u).2.2.Sublist (l.take i)
 | 0, _ => by simp [cellsF]
 | i + 1, hi => by
  have hx : l[i]? = some l[i] := List.getElem?_eq_getElem (by omega)
  have e : l.take (i + 1) = l.take i ++ [l[i]] := by rw [List.take_add_one, hx]; rfl
  rw [cellsF_take hx]
  have := cellS_sub (cellsF_sub l u i (by omega)) l[i]
  rw [← e] at this
  exact this
theorem cellsF_all (l : List Pl) (u : Int) : (cellsF l u).2.1.Sublist l ∧ (cellsF l u).2.2.Sublist l := by
 have := cellsF_sub l u l.length (Nat.le_refl _)
 rwa [List.take_length] at this
def bearX (u : Int) : List Int := [castF u 40, castF (castU u 40) 120, 300]
def bearS (s : Int × List Int) : Int × List Int := (oneU (castU (castU s.1 40) 120) (bearX s.1), s.2 ++ [oneF (castU (castU s.1 40) 120) (bearX s.1)])
def bearsF (u : Int) : Nat → Int × List Int
 | 0 => (u, [])
 | k + 1 => bearS (bearsF u k)
theorem bearsF_len (u : Int) : ∀ k, (bearsF u k).2.length = k
 | 0 => rfl
 | k + 1 => by rw [bearsF, bearS]; simp [bearsF_len u k]
theorem bearsF_in (u : Int) : ∀ k, ∀ b ∈ (bearsF u k).2, 0 ≤ b ∧ b ≤ 300
 | 0, b, h => by simp [bearsF] at h
 | k + 1, b, h => by
  rw [bearsF, bearS] at h
  rcases List.mem_append.1 h with h | h
  ·exact bearsF_in u k b h
  ·rw [List.mem_singleton] at h
   have ho := oneF_mem (u := castU (castU (bearsF u k).1 40) 120) (xs := bearX (bearsF u k).1) (by simp [bearX]) (by simp [bearX])
   rw [← h] at ho
   have c1 := castF_range (u := (bearsF u k).1) (n := 40) (by omega)
   have c2 := castF_range (u := castU (bearsF u k).1 40) (n := 120) (by omega)
   simp only [bearX, List.mem_cons, List.not_mem_nil, or_false] at ho
   rcases ho with ho | ho | ho <;> rw [ho] <;> omega
def awayS (s : Int × List Int) : Int × List Int := (oneU (castU s.1 4) [0, 0, castF s.1 4], s.2 ++ [oneF (castU s.1 4) [0, 0, castF s.1 4]])
def awaysF (u : Int) : Nat → Int × List Int
 | 0 => (u, [])
 | k + 1 => awayS (awaysF u k)
theorem awaysF_len (u : Int) : ∀ k, (awaysF u k).2.length = k
 | 0 => rfl
 | k + 1 => by rw [awaysF, awayS]; simp [awaysF_len u k]
theorem awaysF_in (u : Int) : ∀ k, ∀ b ∈ (awaysF u k).2, 0 ≤ b ∧ b ≤ 3
 | 0, b, h => by simp [awaysF] at h
 | k + 1, b, h => by
  rw [awaysF, awayS] at h
  rcases List.mem_append.1 h with h | h
  ·exact awaysF_in u k b h
  ·rw [List.mem_singleton] at h
   have ho := oneF_mem (u := castU (awaysF u k).1 4) (xs := [0, 0, castF (awaysF u k).1 4]) (by simp) (by simp)
   rw [← h] at ho
   have c1 := castF_range (u := (awaysF u k).1) (n := 4) (by omega)
   simp only [List.mem_cons, List.not_mem_nil, or_false] at ho
   rcases ho with ho | ho | ho <;> rw [ho] <;> omega
def kU4 (u : Int) : Int := oneU u [5, 60]
def kTop (u : Int) : Int := oneF u [5, 60]
def kU5 (u : Int) : Int := spanU (kU4 u) 0 (kTop u)
def kU6 (u : Int) : Int := castU (kU5 u) 3
def kU7 (u : Int) : Int := castU (kU6 u) 50
def kU8 (u : Int) : Int := fromU (kU7 u) 1 5
def kSp (u : Int) : Sp := spanF (kU4 u) 0 (kTop u)
def kWet (u : Int) : Bool := onceF (kU5 u) 3
def kRent (u : Int) : Int := castF (kU6 u) 50
def kMost (u : Int) : Int := fromF (kU7 u) 1 5
def kindS (n : Nat) (s : Int × List Ki) : Int × List Ki :=
 ((awaysF (kU8 s.1) n).1, s.2 ++ [⟨(kSp s.1).lo, (kSp s.1).hi, kWet s.1, (awaysF (kU8 s.1) n).2, kRent s.1, kMost s.1⟩])
def kindsF (n : Nat) (u : Int) : Nat → Int × List Ki
 | 0 => (u, [])
 | k + 1 => kindS n (kindsF n u k)
theorem kindsF_len (n : Nat) (u : Int) : ∀ k, (kindsF n u k).2.length = k
 | 0 => rfl
 | k + 1 => by rw [kindsF, kindS]; simp [kindsF_len n u k]
theorem kTop_in (u : Int) : 5 ≤ kTop u ∧ kTop u ≤ 60 := by
 have ho := oneF_mem (u := u) (xs := [5, 60]) (by simp) (by simp)
 unfold kTop
 simp only [List.mem_cons, List.not_mem_nil, or_false] at ho
 rcases ho with ho | ho <;> rw [ho] <;> omega
theorem kindsF_good (n : Nat) (u : Int) : ∀ k, ∀ q ∈ (kindsF n u k).2, KGood n q
 | 0, q, h => by simp [kindsF] at h
 | k + 1, q, h => by
  rw [kindsF, kindS] at h
  rcases List.mem_append.1 h with h | h
  ·exact kindsF_good n u k q h
  ·rw [List.mem_singleton] at h
   subst h
   have ht := kTop_in (kindsF n u k).1
   have hsp := span_range (u := kU4 (kindsF n u k).1) (lo := 0) (hi := kTop (kindsF n u k).1) (by omega) (by omega)
   have hr := castF_range (u := kU6 (kindsF n u k).1) (n := 50) (by omega)
   have hmo := fromF_range (u := kU7 (kindsF n u k).1) (lo := 1) (hi := 5) (by omega)
   exact ⟨hsp.1, hsp.2.1, by simp only [kSp]; omega, awaysF_len _ _, awaysF_in _ _, by simp only [kRent]; omega, by simp only [kMost]; omega⟩
def hW (u W : Int) : Int := fromF u 1 W
def hD (u W D : Int) : Int := fromF (fromU u 1 W) 1 D
def hU1 (u W D : Int) : Int := fromU (fromU u 1 W) 1 D
def hX (u W D : Int) : Int := fromF (hU1 u W D) 1 (hW u W)
def hY (u W D : Int) : Int := fromF (fromU (hU1 u W D) 1 (hW u W)) 1 (hD u W D)
def hU2 (u W D : Int) : Int := fromU (fromU (hU1 u W D) 1 (hW u W)) 1 (hD u W D)
def hC (u W D : Int) : Int × List Pl × List Pl := cellsF (rowsOf (hD u W D).toNat (hW u W).toNat) (hU2 u W D)
def hNb (u W D : Int) : Nat := (baysOf ⟨hW u W, hD u W D, (hC u W D).2.1, (hC u W D).2.2, ⟨hX u W D, hY u W D⟩, [], []⟩).toNat
def hB (u W D : Int) : Int × List Int := bearsF (hC u W D).1 (hNb u W D)
def hK (u W D N : Int) : Int := fromF (hB u W D).1 1 N
def hKs (u W D N : Int) : Int × List Ki := kindsF (hK u W D N).toNat (fromU (hB u W D).1 1 N) (hK u W D N).toNat
def hallS (u W D N : Int) : Ha × Int := (⟨hW u W, hD u W D, (hC u W D).2.1, (hC u W D).2.2, ⟨hX u W D, hY u W D⟩, (hB u W D).2, (hKs u W D N).2⟩, (hKs u W D N).1)
theorem baysOf_nn {wd dp bx by_ : Int} {ws ss : List Pl} (h1 : 1 ≤ wd ∧ wd ≤ 6) (h2 : 1 ≤ dp ∧ dp ≤ 4) (h3 : 1 ≤ bx ∧ bx ≤ wd) (h4 : 1 ≤ by_ ∧ by_ ≤ dp) : 0 ≤ baysOf ⟨wd, dp, ws, ss, ⟨bx, by_⟩, [], []⟩ ∧ baysOf ⟨wd, dp, ws, ss, ⟨bx, by_⟩, [], []⟩ ≤ 1000000 := by
 have hS : Small ⟨wd, dp, ws, ss, ⟨bx, by_⟩, [], []⟩ := ⟨by simp only; omega, by simp only; omega, by simp only; omega, by simp only; omega, by simp only; omega, by simp only; omega, by simp only; omega, by simp only; omega⟩
 have hc := cols_le hS
 have hd2 := div_le (n := dp + by_ - 1) (b := by_) (by omega) (by omega)
 have hm := mul_le hc.1 hd2.1 hc.2 (show (dp + by_ - 1) / by_ ≤ 8 by omega)
 unfold baysOf colsOf
 simp only at hm ⊢
 omega
theorem hallS_good {u W D N : Int} (hW1 : 1 ≤ W ∧ W ≤ 6) (hD1 : 1 ≤ D ∧ D ≤ 4) (hN1 : 1 ≤ N ∧ N ≤ 6) : HGood (hW u W).toNat (hD u W D).toNat (hallS u W D N).1 ∧ ((hallS u W D N).1.kinds.length : Int) ≤ N ∧ (hallS u W D N).1.wide ≤ W ∧ (hallS u W D N).1.deep ≤ D := by
 have r1 : 1 ≤ hW u W ∧ hW u W ≤ max 1 W := fromF_range (by omega)
 have r2 : 1 ≤ hD u W D ∧ hD u W D ≤ max 1 D := fromF_range (by omega)
 have r3 : 1 ≤ hX u W D ∧ hX u W D ≤ max 1 (hW u W) := fromF_range (by omega)
 have r4 : 1 ≤ hY u W D ∧ hY u W D ≤ max 1 (hD u W D) := fromF_range (by omega)
 have r5 : 1 ≤ hK u W D N ∧ hK u W D N ≤ max 1 N := fromF_range (by omega)
 have hc := cellsF_all (rowsOf (hD u W D).toNat (hW u W).toNat) (hU2 u W D)
 have hb := baysOf_nn (ws := (hC u W D).2.1) (ss := (hC u W D).2.2) (wd := hW u W) (dp := hD u W D) (bx := hX u W D) (by_ := hY u W D) (by omega) (by omega) (by omega) (by omega)
 have e1 : ((hB u W D).2.length : Int) = baysOf ⟨hW u W, hD u W D, (hC u W D).2.1, (hC u W D).2.2, ⟨hX u W D, hY u W D⟩, [], []⟩ := by
  rw [hB, bearsF_len, hNb]
  omega
 have e2 : (hKs u W D N).2.length = (hK u W D N).toNat := kindsF_len _ _ _
 refine ⟨⟨by simp only [hallS]; omega, by simp only [hallS]; omega, by omega, by omega, hc.1, hc.2, by simp only [hallS]; omega, by simp only [hallS]; omega, e1, bearsF_in _ _, by simp only [hallS]; omega, ?_⟩, by simp only [hallS]; omega, by simp only [hallS]; omega, by simp only [hallS]; omega⟩
 simp only [hallS]
 rw [e2]
 exact kindsF_good _ _ _
end Go.Proofs.YtominlgikchnmaaGreatDoor.Vm

/- Halls made of numbers, as a function of the numbers, on values. (Vm) -/
namespace Go.Proofs.YtominlgikchnmaaGreatDoor.Vm
open Go Go.Proofs
attribute [local irreducible] castF castU fromF fromU oneF oneU
structure HallJ where
 i : Nat
 junk : List VObj
 X : List (Nat × Nat)
set_option maxHeartbeats 8000000 in
theorem hallOf_d {H0 : List VObj} {d : Nat} (hd : d < H0.length) (u : Int) (lg : List (Nat × Nat)) (W D N : Int) (hW1 : 1 ≤ W ∧ W ≤ 6) (hD1 : 1 ≤ D ∧ D ≤ 4) (hN1 : 1 ≤ N ∧ N ≤ 6) :
  VC Tryz.prog 7 [.ptr d 0, vi W, vi D, vi N] ⟨DH H0 d u [], lg⟩ (fun r M' => M' = ⟨DH H0 d (hallS u W D N).2 [], lg⟩ ∧ r = hallV (hallS u W D N).1) := by
 have hgood := hallS_good (u := u) hW1 hD1 hN1
 have rw1 := fromF_range (u := u) (lo := 1) (hi := W) (by omega)
 have rd1 := fromF_range (u := fromU u 1 W) (lo := 1) (hi := D) (by omega)
 refine VC_own' T_ok (f := 7) (fn := Tryz.f7) (by kernel_rfl) rfl Tryz.ntmps7 (by rfl) (by rfl) ?_
 ((repeat refine Ws ?_);refine Wr ?_)
 simp (maxSteps := 1000000) only [VL,VM,↓VG,reduceIte,reduceCtorEq,zA,zB,zC,zD,zE,zF,zG,zH,zI,zJ, DH_app hd, DH_len, DH_len0, DH_get hd, DH_get0 hd, DH_set hd, DH_set0 hd, DH_setd, DH_die hd]
 ((repeat refine Ws ?_);refine Wr ?_)
 simp (maxSteps := 1000000) only [VL,VM,↓VG,reduceIte,reduceCtorEq,zA,zB,zC,zD,zE,zF,zG,zH,zI,zJ]
 apply call_eq (f := 24) (fn := Tryz.f24) (by kernel_rfl) (by rfl)
 ·exact from_c hd u 1 W lg (by omega) (by omega) (by omega) (by omega)
 simp (maxSteps := 1000000) only [VL,VM,↓VG,reduceIte,reduceCtorEq,zA,zB,zC,zD,zE,zF,zG,zH,zI,zJ]
 apply call_eq (f := 24) (fn := Tryz.f24) (by kernel_rfl) (by rfl)
 ·exact from_c hd (fromU u 1 W) 1 D lg (by omega) (by omega) (by omega) (by omega)
 generalize hu1 : fromU (fromU u 1 W) 1 D = u1
 generalize hw0 : fromF u 1 W = w at rw1
 generalize hd0 : fromF (fromU u 1 W) 1 D = dd at rd1
 obtain ⟨wd, rfl⟩ : ∃ m : Nat, w = (m : Int) := ⟨w.toNat, by omega⟩
 obtain ⟨dp, rfl⟩ : ∃ m : Nat, dd = (m : Int) := ⟨dd.toNat, by omega⟩
 have hwd : 1 ≤ wd ∧ wd ≤ 6 := by omega
 have hdp : 1 ≤ dp ∧ dp ≤ 4 := by omega
 have hwW : (wd : Int) ≤ W := by omega
 have hdD : (dp : Int) ≤ D := by omega
 clear rw1 rd1
 simp (maxSteps := 1000000) only [VL,VM,↓VG,reduceIte,reduceCtorEq,zA,zB,zC,zD,zE,zF,zG,zH,zI,zJ, DH_app hd, DH_len, DH_len0, DH_get hd, DH_get0 hd, DH_set hd, DH_set0 hd, DH_setd, DH_die hd]
 refine W_ghost (id := H0.length + 1) (off := 2) (k := 2) (k0 := 0) (by rw [DH_get hd]; rfl) rfl ?_
 simp (maxSteps := 1000000) only [VL,VM,↓VG,reduceIte,reduceCtorEq,zA,zB,zC,zD,zE,zF,zG,zH,zI,zJ, DH_app hd, DH_len, DH_len0, DH_get hd, DH_get0 hd, DH_set hd, DH_set0 hd, DH_setd, DH_die hd]
 refine W_ghost (id := H0.length + 1) (off := 3) (k := 2) (k0 := 0) (by rw [DH_get hd]; rfl) rfl ?_
 simp (maxSteps := 1000000) only [VL,VM,↓VG,reduceIte,reduceCtorEq,zA,zB,zC,zD,zE,zF,zG,zH,zI,zJ, DH_app hd, DH_len, DH_len0, DH_get hd, DH_get0 hd, DH_set hd, DH_set0 hd, DH_setd, DH_die hd]
 refine W_ghost (id := H0.length + 1) (off := 6) (k := 1) (k0 := 0) (by rw [DH_get hd]; rfl) rfl ?_
 simp (maxSteps := 1000000) only [VL,VM,↓VG,reduceIte,reduceCtorEq,zA,zB,zC,zD,zE,zF,zG,zH,zI,zJ, DH_app hd, DH_len, DH_len0, DH_get hd, DH_get0 hd, DH_set hd, DH_set0 hd, DH_setd, DH_die hd]
 refine W_ghost (id := H0.length + 1) (off := 7) (k := 6) (k0 := 0) (by rw [DH_get hd]; rfl) rfl ?_
 simp (maxSteps := 1000000) only [VL,VM,↓VG,reduceIte,reduceCtorEq,zA,zB,zC,zD,zE,zF,zG,zH,zI,zJ, DH_app hd, DH_len, DH_len0, DH_get hd, DH_get0 hd, DH_set hd, DH_set0 hd, DH_setd, DH_die hd]
 obtain ⟨n, hn⟩ : ∃ n, H0.length = n := ⟨_, rfl⟩
 rw [hn] at hd ⊢
 obtain ⟨lgA, hlg⟩ : ∃ lgA, lgA = lg ++ [(n + 1, n + 2), (n + 1, n + 3), (n + 1, n + 4), (n + 1, n + 5)] := ⟨_, rfl⟩
 rw [← hlg]
 have A2 : addLg (n + 1) [n + 2] lgA = lgA := addLg_has (by rw [hlg]; simp)
 have A3 : addLg (n + 1) [n + 3] lgA = lgA := addLg_has (by rw [hlg]; simp)
 have A4 : addLg (n + 1) [n + 4] lgA = lgA := addLg_has (by rw [hlg]; simp)
 have A5 : ∀ X, addLg (n + 1) [n + 5] (lgA ++ X) = lgA ++ X := fun X => addLg_has (by rw [hlg]; simp)
 have dg : ∀ u L k, (DH H0 d u L)[n + k]? = L[k]? := fun u L k => by rw [← hn]; exact DH_get (hn ▸ hd) k
 have dg0 : ∀ u L, (DH H0 d u L)[n]? = L[0]? := fun u L => by rw [← hn]; exact DH_get0 (hn ▸ hd)
 have ds : ∀ u L k o, (DH H0 d u L).set (n + k) o = DH H0 d u (L.set k o) := fun u L k o => by rw [← hn]; exact DH_set (hn ▸ hd) k o
 have ds0 : ∀ u L o, (DH H0 d u L).set n o = DH H0 d u (L.set 0 o) := fun u L o => by rw [← hn]; exact DH_set0 (hn ▸ hd) o
 have dl : ∀ u L, (DH H0 d u L).length = n + L.length := fun u L => by rw [← hn]; exact DH_len
 have da : ∀ u L X, DH H0 d u L ++ X = DH H0 d u (L ++ X) := fun u L X => DH_app (hn ▸ hd) X
 have hd' : d < H0.length := by rw [hn]; exact hd
 have rx := fromF_range (u := u1) (lo := 1) (hi := (wd : Int)) (by omega)
 have ry := fromF_range (u := fromU u1 1 wd) (lo := 1) (hi := (dp : Int)) (by omega)
 (repeat refine Ws ?_)
 refine W_drawP T_ok [] (by kernel_rfl) (by kernel_rfl) ?_
 generalize hi : mkPlan _ = infs
 cbv at hi
 subst hi
 simp (maxSteps := 1000000) only [VL,VM,↓VG,reduceIte,reduceCtorEq,zA,zB,zC,zD,zE,zF,zG,zH,zI,zJ, dg, dg0, ds, ds0, dl, da]
 apply call_d (f := 24) (fn := Tryz.f24) (by kernel_rfl) (by rfl)
 ·exact from_c hd' u1 1 wd lgA (by omega) (by omega) (by omega) (by omega)
 simp (maxSteps := 1000000) only [VL,VM,↓VG,reduceIte,reduceCtorEq,zA,zB,zC,zD,zE,zF,zG,zH,zI,zJ, dg, dg0, ds, ds0, dl, da]
 apply call_d (f := 24) (fn := Tryz.f24) (by kernel_rfl) (by rfl)
 ·exact from_c hd' (fromU u1 1 wd) 1 dp lgA (by omega) (by omega) (by omega) (by omega)
 generalize hu2 : fromU (fromU u1 1 wd) 1 dp = u2
 generalize hbx0 : fromF u1 1 wd = bx at rx
 generalize hby0 : fromF (fromU u1 1 wd) 1 dp = by_ at ry
 replace rx : 1 ≤ bx ∧ bx ≤ max 1 (wd : Int) := rx
 replace ry : 1 ≤ by_ ∧ by_ ≤ max 1 (dp : Int) := ry
 replace hwW : (wd : Int) ≤ W := hwW
 replace hdD : (dp : Int) ≤ D := hdD
 replace hw0 : fromF u 1 W = (wd : Int) := hw0
 replace hd0 : fromF (fromU u 1 W) 1 D = (dp : Int) := hd0
 replace hbx0 : fromF u1 1 (wd : Int) = bx := hbx0
 replace hby0 : fromF (fromU u1 1 (wd : Int)) 1 (dp : Int) = by_ := hby0
 replace hu2 : fromU (fromU u1 1 (wd : Int)) 1 (dp : Int) = u2 := hu2
 replace hu1 : fromU (fromU u 1 W) 1 D = u1 := hu1
 have hbx : 1 ≤ bx ∧ bx ≤ (wd : Int) := by omega
 have hby : 1 ≤ by_ ∧ by_ ≤ (dp : Int) := by omega
 clear rx ry
 simp (maxSteps := 1000000) only [VL,VM,↓VG,reduceIte,reduceCtorEq,zA,zB,zC,zD,zE,zF,zG,zH,zI,zJ, dg, dg0, ds, ds0, dl, da]
 ((repeat refine Ws ?_);refine Wr ?_)
 simp (maxSteps := 1000000) only [VL,VM,↓VG,reduceIte,reduceCtorEq,zA,zB,zC,zD,zE,zF,zG,zH,zI,zJ, dg, dg0, ds, ds0, dl, da]
 apply call_eq (f := 25) (fn := Tryz.f25) (by kernel_rfl) (by rfl)
 ·exact places_v ⟨wd, dp, [], [], ⟨bx, by_⟩, [], []⟩ wd dp _ rfl rfl (by omega) (by omega)
 simp (maxSteps := 1000000) only [VL,VM,↓VG,reduceIte,reduceCtorEq,zA,zB,zC,zD,zE,zF,zG,zH,zI,zJ]
 ((repeat refine Ws ?_);refine Wr ?_)
 simp (maxSteps := 1000000) only [VL,VM,↓VG,reduceIte,reduceCtorEq,zA,zB,zC,zD,zE,zF,zG,zH,zI,zJ]
 have hnP : (rowsOf dp wd).length ≤ 24 := by
  rw [rowsOf_len]
  exact Nat.mul_le_mul (show dp ≤ 4 by omega) (show wd ≤ 6 by omega)
 ((repeat refine Ws ?_);refine W_block ?_; (repeat refine Ws ?_)); refine W_loopS (fun i : Nat => [(0, .ptr d 0), (3, vi N), (8, .ptr n 0), (9, .ptr (n + 1) 0), (10, plsV (rowsOf dp wd)), (11, vi i)]) (fun i => ⟨DH H0 d (cellsF ((rowsOf dp wd).take i) u2).1 [VObj.obj [vi 0, vi 0, .sf 0 [], .sf 0 [], vi 0, vi 0, .sf 0 [], .sf 0 []], VObj.obj [vi wd, vi dp, .so (n + 2) 2 ((cellsF ((rowsOf dp wd).take i) u2).2.1.map plP), .so (n + 3) 2 ((cellsF ((rowsOf dp wd).take i) u2).2.2.map plP), vi bx, vi by_, .so (n + 4) 1 [], .so (n + 5) 6 []], .clm (cellsF ((rowsOf dp wd).take i) u2).2.1.length 2, .clm (cellsF ((rowsOf dp wd).take i) u2).2.2.length 2, .clm 0 1, .clm 0 6], lgA⟩) (fun i => (rowsOf dp wd).length - i) (fun i => i ≤ (rowsOf dp wd).length) 0 (Nat.zero_le _) ⟨rfl, rfl, rfl, rfl, rfl, rfl, trivial⟩ rfl ?_
 intro i hi
 have hsub := cellsF_sub (rowsOf dp wd) u2 i hi
 have hcs : ∀ c, (rowsOf dp wd)[i]? = some c → cellsF ((rowsOf dp wd).take (i + 1)) u2 = cellS (cellsF ((rowsOf dp wd).take i) u2) c := fun c hx => cellsF_take hx u2
 generalize hst : cellsF ((rowsOf dp wd).take i) u2 = st at hsub hcs ⊢
 obtain ⟨v, ws, ss⟩ := st
 obtain ⟨hws, hss⟩ := hsub
 simp only at hws hss
 have k1 : -9223372036854775808 ≤ (i : Int) + 1 ∧ (i : Int) + 1 < 9223372036854775808 := by omega
 have l1 := hws.length_le
 have l2 := hss.length_le
 rw [List.length_take] at l1 l2
 ((repeat refine Ws ?_);refine Wr ?_)
 rcases Nat.lt_or_ge i (rowsOf dp wd).length with hlt | hge
 ·have k2 : ((i : Int) < ((rowsOf dp wd).length : Int)) = True := eq_true (by omega)
  have hx : (rowsOf dp wd)[i]? = some (rowsOf dp wd)[i] := List.getElem?_eq_getElem hlt
  have hx' := map_at (f := plP) hx
  generalize hc : (rowsOf dp wd)[i] = c at hx hx'
  have q1 : ((ws.length + 1) * 16 ≤ 140737488355328) = True := eq_true (by omega)
  have q2 : ((ss.length + 1) * 16 ≤ 140737488355328) = True := eq_true (by omega)
  have htk : (rowsOf dp wd).take (i + 1) = (rowsOf dp wd).take i ++ [c] := by rw [List.take_add_one, hx]; rfl
  simp (maxSteps := 1000000) only [VL,VM,↓VG,reduceIte,reduceCtorEq,zA,zB,zC,zD,zE,zF,zG,zH,zI,zJ, k2]
  ((repeat refine Ws ?_);refine Wt (by first|rfl|simp only [EV,zF,reduceIte]) ?_)
  ((repeat refine Ws ?_);refine W_skip ?_)
  simp (maxSteps := 1000000) only [VL,VM,↓VG,reduceIte,reduceCtorEq,zA,zB,zC,zD,zE,zF,zG,zH,zI,zJ]
  ((repeat refine Ws ?_);refine W_block ?_)
  ((repeat refine Ws ?_);refine Wr ?_)
  simp (maxSteps := 1000000) only [VL,VM,↓VG,reduceIte,reduceCtorEq,zA,zB,zC,zD,zE,zF,zG,zH,zI,zJ]
  apply call_eq (f := 26) (fn := Tryz.f26) (by kernel_rfl) (by rfl)
  ·exact once_c hd' v 2 lgA (by omega)
  have hnx := hcs c hx
  simp only [cellS] at hnx
  generalize hv2 : castU v 2 = v2 at hnx ⊢
  have first : ∃ ws2 : List Pl, ws2 = (if onceF v 2 then ws ++ [c] else ws) := ⟨_, rfl⟩
  obtain ⟨ws2, hw2⟩ := first
  rw [← hw2] at hnx
  cases ho : onceF v 2
  all_goals
   rw [ho] at hw2
   simp only [Bool.false_eq_true, if_false, if_true] at hw2
   first
   | (have hw3 : ws = ws2 := hw2.symm
      rw [hw3]
      simp (maxSteps := 1000000) only [VL,VM,↓VG,reduceIte,reduceCtorEq,zA,zB,zC,zD,zE,zF,zG,zH,zI,zJ]
      ((repeat refine Ws ?_);refine Wf (by first|rfl|simp only [EV,zF,reduceIte]) ?_)
      ((repeat refine Ws ?_);refine W_skip ?_)
      simp (maxSteps := 1000000) only [VL,VM,↓VG,reduceIte,reduceCtorEq,zA,zB,zC,zD,zE,zF,zG,zH,zI,zJ])
   | (simp (maxSteps := 1000000) only [VL,VM,↓VG,reduceIte,reduceCtorEq,zA,zB,zC,zD,zE,zF,zG,zH,zI,zJ]
      ((repeat refine Ws ?_);refine Wt (by first|rfl|simp only [EV,zF,reduceIte]) ?_)
      (repeat refine Ws ?_)
      refine W_drawP T_ok [] (by kernel_rfl) (by kernel_rfl) ?_
      generalize hi : mkPlan _ = infs
      cbv at hi
      subst hi
      simp (maxSteps := 1000000) only [VL,VM,↓VG,reduceIte,reduceCtorEq,zA,zB,zC,zD,zE,zF,zG,zH,zI,zJ, dg, dg0, ds, ds0, dl, da, hx', q1, A2]
      have hm2 : ws.map plP ++ [[PV.int .i64 c.x, PV.int .i64 c.y]] = ws2.map plP := by rw [hw2]; simp
      have hl2 : ws.length + 1 = ws2.length := by rw [hw2]; simp
      rw [hm2, hl2])
   clear hw2
   ((repeat refine Ws ?_);refine Wr ?_)
   simp (maxSteps := 1000000) only [VL,VM,↓VG,reduceIte,reduceCtorEq,zA,zB,zC,zD,zE,zF,zG,zH,zI,zJ]
   apply call_eq (f := 26) (fn := Tryz.f26) (by kernel_rfl) (by rfl)
   ·exact once_c hd' v2 7 lgA (by omega)
   generalize hv3 : castU v2 7 = v3 at hnx ⊢
   cases ho2 : onceF v2 7
   ·simp (maxSteps := 1000000) only [VL,VM,↓VG,reduceIte,reduceCtorEq,zA,zB,zC,zD,zE,zF,zG,zH,zI,zJ]
    ((repeat refine Ws ?_);refine Wf (by first|rfl|simp only [EV,zF,reduceIte]) ?_)
    ((repeat refine Ws ?_);refine W_skip ?_)
    simp (maxSteps := 1000000) only [VL,VM,↓VG,reduceIte,reduceCtorEq,zA,zB,zC,zD,zE,zF,zG,zH,zI,zJ]
    ((repeat refine Ws ?_);refine Wr ?_)
    simp (maxSteps := 1000000) only [VL,VM,↓VG,reduceIte,reduceCtorEq,zA,zB,zC,zD,zE,zF,zG,zH,zI,zJ, k1]
    rw [ho2] at hnx
    simp only [Bool.false_eq_true, if_false] at hnx
    exact LoopK.mk (i + 1) (by omega) (by omega) ⟨rfl, rfl, rfl, rfl, rfl, rfl, trivial⟩ (by simp only [hnx])
   ·simp (maxSteps := 1000000) only [VL,VM,↓VG,reduceIte,reduceCtorEq,zA,zB,zC,zD,zE,zF,zG,zH,zI,zJ]
    ((repeat refine Ws ?_);refine Wt (by first|rfl|simp only [EV,zF,reduceIte]) ?_)
    (repeat refine Ws ?_)
    refine W_drawP T_ok [] (by kernel_rfl) (by kernel_rfl) ?_
    generalize hi : mkPlan _ = infs
    cbv at hi
    subst hi
    simp (maxSteps := 1000000) only [VL,VM,↓VG,reduceIte,reduceCtorEq,zA,zB,zC,zD,zE,zF,zG,zH,zI,zJ, dg, dg0, ds, ds0, dl, da, hx', q2, A3]
    ((repeat refine Ws ?_);refine Wr ?_)
    simp (maxSteps := 1000000) only [VL,VM,↓VG,reduceIte,reduceCtorEq,zA,zB,zC,zD,zE,zF,zG,zH,zI,zJ, k1]
    rw [ho2] at hnx
    simp only [if_true] at hnx
    refine LoopK.mk (i + 1) (by omega) (by omega) ⟨rfl, rfl, rfl, rfl, rfl, rfl, trivial⟩ ?_
    simp only [hnx]
    simp
 have k2 : ((i : Int) < ((rowsOf dp wd).length : Int)) = False := eq_false (by omega)
 obtain rfl : i = (rowsOf dp wd).length := by omega
 rw [List.take_length] at hws hss hst
 clear l1 l2 k1 hi hge hcs
 simp (maxSteps := 1000000) only [VL,VM,↓VG,reduceIte,reduceCtorEq,zA,zB,zC,zD,zE,zF,zG,zH,zI,zJ, k2]
 ((repeat refine Ws ?_);refine Wf (by first|rfl|simp only [EV,zF,reduceIte]) ?_)
 ((repeat refine Ws ?_);refine W_exit ?_)
 simp (maxSteps := 1000000) only [VL,VM,↓VG,reduceIte,reduceCtorEq,zA,zB,zC,zD,zE,zF,zG,zH,zI,zJ]
 ((repeat refine Ws ?_);refine Wr ?_)
 simp (maxSteps := 1000000) only [VL,VM,↓VG,reduceIte,reduceCtorEq,zA,zB,zC,zD,zE,zF,zG,zH,zI,zJ, dg, dg0, ds, ds0, dl, da]
 obtain ⟨nb, hnb⟩ : ∃ nb : Nat, (nb : Int) = baysOf ⟨wd, dp, ws, ss, ⟨bx, by_⟩, [], []⟩ ∧ nb ≤ 1000000 := ⟨(baysOf ⟨wd, dp, ws, ss, ⟨bx, by_⟩, [], []⟩).toNat, by
  have hS : Small ⟨wd, dp, ws, ss, ⟨bx, by_⟩, [], []⟩ := ⟨by simp only; omega, by simp only; omega, by simp only; omega, by simp only; omega, by simp only; omega, by simp only; omega, by simp only; omega, by simp only; omega⟩
  have hc := cols_le hS
  have hd2 := div_le (n := (dp : Int) + by_ - 1) (b := by_) (by omega) (by omega)
  have hm := mul_le hc.1 hd2.1 hc.2 (show ((dp : Int) + by_ - 1) / by_ ≤ 8 by omega)
  have h0 : 0 ≤ baysOf ⟨wd, dp, ws, ss, ⟨bx, by_⟩, [], []⟩ ∧ baysOf ⟨wd, dp, ws, ss, ⟨bx, by_⟩, [], []⟩ ≤ 1000000 := by
   unfold baysOf colsOf
   simp only at hm ⊢
   omega
  exact ⟨by omega, by omega⟩⟩
 obtain ⟨hnb, hnb2⟩ := hnb
 apply call_eq (f := 27) (fn := Tryz.f27) (by kernel_rfl) (by rfl)
 ·exact bays_v ⟨wd, dp, ws, ss, ⟨bx, by_⟩, [], []⟩ _ ⟨by simp only; omega, by simp only; omega, by simp only; omega, by simp only; omega, by simp only; omega, by simp only; omega, by simp only; omega, by simp only; omega⟩
 rw [← hnb]
 simp (maxSteps := 1000000) only [VL,VM,↓VG,reduceIte,reduceCtorEq,zA,zB,zC,zD,zE,zF,zG,zH,zI,zJ]
 ((repeat refine Ws ?_);refine W_block ?_; (repeat refine Ws ?_)); refine W_loopS (fun k : Nat => [(0, .ptr d 0), (3, vi N), (8, .ptr n 0), (9, .ptr (n + 1) 0), (12, vi ((nb : Int) - (k : Int)))]) (fun k => ⟨DH H0 d (bearsF v k).1 [VObj.obj [vi 0, vi 0, .sf 0 [], .sf 0 [], vi 0, vi 0, .sf 0 [], .sf 0 []], VObj.obj [vi wd, vi dp, .so (n + 2) 2 (ws.map plP), .so (n + 3) 2 (ss.map plP), vi bx, vi by_, .so (n + 4) 1 ((bearsF v k).2.map intP), .so (n + 5) 6 []], .clm ws.length 2, .clm ss.length 2, .clm (bearsF v k).2.length 1, .clm 0 6], lgA⟩) (fun k => nb - k) (fun k => k ≤ nb) 0 (Nat.zero_le _) ⟨rfl, rfl, rfl, rfl, by simp [get_cons], trivial⟩ rfl ?_
 intro k hbl
 have hkl := bearsF_len v k
 have hbs := bearsF_in v k
 have hbn : bearsF v (k + 1) = bearS (bearsF v k) := rfl
 generalize hsb : bearsF v k = sb at hkl hbs hbn ⊢
 obtain ⟨v1, bs⟩ := sb
 simp only at hkl hbs
 subst hkl
 simp only [bearS, bearX] at hbn
 ((repeat refine Ws ?_);refine Wr ?_)
 rcases Nat.lt_or_ge bs.length nb with hlt | hge
 ·have k2 : ((0 : Int) < (nb : Int) - (bs.length : Int)) = True := eq_true (by omega)
  have k3 : -9223372036854775808 ≤ (nb : Int) - (bs.length : Int) - 1 ∧ (nb : Int) - (bs.length : Int) - 1 < 9223372036854775808 := by omega
  have q1 : ((bs.length + 1) * 8 ≤ 140737488355328) = True := eq_true (by omega)
  have c1 := castF_range (u := v1) (n := 40) (by omega)
  have c2 := castF_range (u := castU v1 40) (n := 120) (by omega)
  have ho := oneF_mem (u := castU (castU v1 40) 120) (xs := [castF v1 40, castF (castU v1 40) 120, 300]) (by simp) (by simp)
  simp (maxSteps := 1000000) only [VL,VM,↓VG,reduceIte,reduceCtorEq,zA,zB,zC,zD,zE,zF,zG,zH,zI,zJ, k2]
  ((repeat refine Ws ?_);refine Wt (by first|rfl|simp only [EV,zF,reduceIte]) ?_)
  ((repeat refine Ws ?_);refine W_skip ?_)
  simp (maxSteps := 1000000) only [VL,VM,↓VG,reduceIte,reduceCtorEq,zA,zB,zC,zD,zE,zF,zG,zH,zI,zJ]
  ((repeat refine Ws ?_);refine W_block ?_)
  (repeat refine Ws ?_)
  refine W_drawP T_ok [] (by kernel_rfl) (by kernel_rfl) ?_
  generalize hi : mkPlan _ = infs
  cbv at hi
  subst hi
  simp (maxSteps := 1000000) only [VL,VM,↓VG,reduceIte,reduceCtorEq,zA,zB,zC,zD,zE,zF,zG,zH,zI,zJ, dg, dg0, ds, ds0, dl, da]
  apply call_d (f := 29) (fn := Tryz.f29) (by kernel_rfl) (by rfl)
  ·exact cast_c hd' v1 40 lgA (by omega)
  simp (maxSteps := 1000000) only [VL,VM,↓VG,reduceIte,reduceCtorEq,zA,zB,zC,zD,zE,zF,zG,zH,zI,zJ, dg, dg0, ds, ds0, dl, da]
  apply call_d (f := 29) (fn := Tryz.f29) (by kernel_rfl) (by rfl)
  ·exact cast_c hd' (castU v1 40) 120 lgA (by omega)
  simp (maxSteps := 1000000) only [VL,VM,↓VG,reduceIte,reduceCtorEq,zA,zB,zC,zD,zE,zF,zG,zH,zI,zJ, dg, dg0, ds, ds0, dl, da]
  apply call_d (f := 28) (fn := Tryz.f28) (by kernel_rfl) (by rfl)
  ·exact one_c hd' (castU (castU v1 40) 120) [castF v1 40, castF (castU v1 40) 120, 300] lgA (by simp) (by simp)
  generalize castF v1 40 = y1 at *
  generalize castF (castU v1 40) 120 = y2 at *
  generalize castU (castU v1 40) 120 = v9 at *
  generalize hb9 : oneF v9 [y1, y2, 300] = b at *
  clear hb9
  generalize oneU v9 [y1, y2, 300] = v2 at *
  simp (maxSteps := 1000000) only [VL,VM,↓VG,reduceIte,reduceCtorEq,zA,zB,zC,zD,zE,zF,zG,zH,zI,zJ, dg, dg0, ds, ds0, dl, da, q1, A4]
  ((repeat refine Ws ?_);refine Wr ?_)
  simp (maxSteps := 1000000) only [VL,VM,↓VG,reduceIte,reduceCtorEq,zA,zB,zC,zD,zE,zF,zG,zH,zI,zJ, k3]
  refine LoopK.mk (bs.length + 1) (by omega) (by omega) ⟨rfl, rfl, rfl, rfl, ?_, trivial⟩ ?_
  ·have e9 : (nb : Int) - (bs.length : Int) - 1 = (nb : Int) - ((bs.length + 1 : Nat) : Int) := by omega
   show vi ((nb : Int) - (bs.length : Int) - 1) = vi ((nb : Int) - ((bs.length + 1 : Nat) : Int))
   rw [e9]
  ·simp only [hbn]
   simp
 have k2 : ((0 : Int) < (nb : Int) - (bs.length : Int)) = False := eq_false (by omega)
 simp (maxSteps := 1000000) only [VL,VM,↓VG,reduceIte,reduceCtorEq,zA,zB,zC,zD,zE,zF,zG,zH,zI,zJ, k2]
 ((repeat refine Ws ?_);refine Wf (by first|rfl|simp only [EV,zF,reduceIte]) ?_)
 ((repeat refine Ws ?_);refine W_exit ?_)
 simp (maxSteps := 1000000) only [VL,VM,↓VG,reduceIte,reduceCtorEq,zA,zB,zC,zD,zE,zF,zG,zH,zI,zJ]
 ((repeat refine Ws ?_);refine Wr ?_)
 simp (maxSteps := 1000000) only [VL,VM,↓VG,reduceIte,reduceCtorEq,zA,zB,zC,zD,zE,zF,zG,zH,zI,zJ]
 have rn := fromF_range (u := v1) (lo := 1) (hi := N) (by omega)
 apply call_eq (f := 24) (fn := Tryz.f24) (by kernel_rfl) (by rfl)
 ·exact from_c hd' v1 1 N lgA (by omega) (by omega) (by omega) (by omega)
 generalize hv2 : fromU v1 1 N = v2
 generalize hkn : fromF v1 1 N = kn at rn
 obtain ⟨nk, rfl⟩ : ∃ m : Nat, kn = (m : Int) := ⟨kn.toNat, by omega⟩
 have hnk : 1 ≤ nk ∧ nk ≤ 6 := by omega
 have hnkN : (nk : Int) ≤ N := by omega
 have hbe : bs.length = nb := by omega
 rw [hbe] at hsb
 clear hbn hbs
 clear rn k2 hge
 simp (maxSteps := 1000000) only [VL,VM,↓VG,reduceIte,reduceCtorEq,zA,zB,zC,zD,zE,zF,zG,zH,zI,zJ]
 ((repeat refine Ws ?_);refine Wr ?_)
 simp (maxSteps := 1000000) only [VL,VM,↓VG,reduceIte,reduceCtorEq,zA,zB,zC,zD,zE,zF,zG,zH,zI,zJ]
 ((repeat refine Ws ?_);refine W_block ?_; (repeat refine Ws ?_)); refine W_loopS (fun s : HallJ => [(0, .ptr d 0), (3, vi N), (8, .ptr n 0), (9, .ptr (n + 1) 0), (13, vi nk), (14, vi s.i)]) (fun s => ⟨DH H0 d (kindsF nk v2 s.i).1 (VObj.obj [vi 0, vi 0, .sf 0 [], .sf 0 [], vi 0, vi 0, .sf 0 [], .sf 0 []] :: VObj.obj [vi wd, vi dp, .so (n + 2) 2 (ws.map plP), .so (n + 3) 2 (ss.map plP), vi bx, vi by_, .so (n + 4) 1 (bs.map intP), .so (n + 5) 6 ((kindsF nk v2 s.i).2.map kiP)] :: .clm ws.length 2 :: .clm ss.length 2 :: .clm bs.length 1 :: .clm (kindsF nk v2 s.i).2.length 6 :: s.junk), lgA ++ s.X⟩) (fun s => nk - s.i) (fun s => s.i ≤ nk ∧ ∀ e ∈ s.X, n ≤ e.1) ⟨0, [], []⟩ ⟨Nat.zero_le _, by simp⟩ ⟨rfl, rfl, rfl, rfl, rfl, rfl, trivial⟩ (by simp [kindsF]) ?_
 rintro ⟨k, junk, X⟩ ⟨hkl, hX⟩
 simp only at hkl hX
 have hkl2 := kindsF_len nk v2 k
 have hkn2 : kindsF nk v2 (k + 1) = kindS nk (kindsF nk v2 k) := rfl
 generalize hsk : kindsF nk v2 k = sk at hkl2 hkn2 ⊢
 obtain ⟨v3, ks⟩ := sk
 simp only at hkl2
 subst hkl2
 simp only [kindS, kU4, kU5, kU6, kU7, kU8, kTop, kSp, kWet, kRent, kMost] at hkn2
 have k1 : -9223372036854775808 ≤ (ks.length : Int) + 1 ∧ (ks.length : Int) + 1 < 9223372036854775808 := by omega
 ((repeat refine Ws ?_);refine Wr ?_)
 rcases Nat.lt_or_ge ks.length nk with hlt | hge
 ·have k2 : ((ks.length : Int) < (nk : Int)) = True := eq_true (by omega)
  have ho := oneF_mem (u := v3) (xs := [5, 60]) (by simp) (by simp)
  simp (maxSteps := 1000000) only [VL,VM,↓VG,reduceIte,reduceCtorEq,zA,zB,zC,zD,zE,zF,zG,zH,zI,zJ, k2]
  ((repeat refine Ws ?_);refine Wt (by first|rfl|simp only [EV,zF,reduceIte]) ?_)
  ((repeat refine Ws ?_);refine W_skip ?_)
  simp (maxSteps := 1000000) only [VL,VM,↓VG,reduceIte,reduceCtorEq,zA,zB,zC,zD,zE,zF,zG,zH,zI,zJ]
  ((repeat refine Ws ?_);refine W_block ?_)
  ((repeat refine Ws ?_);refine Wr ?_)
  simp (maxSteps := 1000000) only [VL,VM,↓VG,reduceIte,reduceCtorEq,zA,zB,zC,zD,zE,zF,zG,zH,zI,zJ]
  apply call_eq (f := 28) (fn := Tryz.f28) (by kernel_rfl) (by rfl)
  ·exact one_c hd' v3 [5, 60] (lgA ++ X) (by simp) (by simp)
  generalize oneF v3 [5, 60] = top at *
  generalize oneU v3 [5, 60] = v4 at *
  have ho5 : 5 ≤ top ∧ top ≤ 60 := by
   simp only [List.mem_cons, List.not_mem_nil, or_false] at ho
   rcases ho with rfl | rfl <;> omega
  have hsp := span_range (u := v4) (lo := 0) (hi := top) (by omega) (by omega)
  simp (maxSteps := 1000000) only [VL,VM,↓VG,reduceIte,reduceCtorEq,zA,zB,zC,zD,zE,zF,zG,zH,zI,zJ]
  apply call_eq (f := 30) (fn := Tryz.f30) (by kernel_rfl) (by rfl)
  ·exact span_c hd' v4 0 top (lgA ++ X) (by omega) (by omega) (by omega)
  generalize spanF v4 0 top = sp at *
  generalize spanU v4 0 top = v5 at *
  simp (maxSteps := 1000000) only [VL,VM,↓VG,reduceIte,reduceCtorEq,zA,zB,zC,zD,zE,zF,zG,zH,zI,zJ]
  apply call_eq (f := 26) (fn := Tryz.f26) (by kernel_rfl) (by rfl)
  ·exact once_c hd' v5 3 (lgA ++ X) (by omega)
  generalize onceF v5 3 = wet at *
  generalize castU v5 3 = v6 at *
  simp (maxSteps := 1000000) only [VL,VM,↓VG,reduceIte,reduceCtorEq,zA,zB,zC,zD,zE,zF,zG,zH,zI,zJ]
  have hr := castF_range (u := v6) (n := 50) (by omega)
  apply call_eq (f := 29) (fn := Tryz.f29) (by kernel_rfl) (by rfl)
  ·exact cast_c hd' v6 50 (lgA ++ X) (by omega)
  generalize castF v6 50 = rent at *
  generalize castU v6 50 = v7 at *
  simp (maxSteps := 1000000) only [VL,VM,↓VG,reduceIte,reduceCtorEq,zA,zB,zC,zD,zE,zF,zG,zH,zI,zJ]
  have hmo := fromF_range (u := v7) (lo := 1) (hi := 5) (by omega)
  apply call_eq (f := 24) (fn := Tryz.f24) (by kernel_rfl) (by rfl)
  ·exact from_c hd' v7 1 5 (lgA ++ X) (by omega) (by omega) (by omega) (by omega)
  generalize fromF v7 1 5 = most at *
  generalize fromU v7 1 5 = v8 at *
  simp (maxSteps := 1000000) only [VL,VM,↓VG,reduceIte,reduceCtorEq,zA,zB,zC,zD,zE,zF,zG,zH,zI,zJ, dg, dg0, ds, ds0, dl, da]
  refine W_ghost (id := n + (junk.length + 6)) (off := 3) (k := 1) (k0 := 0) (cs := [vi sp.lo, vi sp.hi, vb wet, .sf 0 [], vi rent, vi most]) (by rw [dg]; simp) rfl ?_
  simp (maxSteps := 1000000) only [VL,VM,↓VG,reduceIte,reduceCtorEq,zA,zB,zC,zD,zE,zF,zG,zH,zI,zJ, dg, dg0, ds, ds0, dl, da, List.getElem?_cons_succ]
  have A7 : addLg (n + (junk.length + 6)) [n + (junk.length + 7)] (lgA ++ (X ++ [(n + (junk.length + 6), n + (junk.length + 7))])) = lgA ++ (X ++ [(n + (junk.length + 6), n + (junk.length + 7))]) := addLg_has (by simp)
  have A5' := A5 (X ++ [(n + (junk.length + 6), n + (junk.length + 7))])
  have hX' : ∀ e ∈ X ++ [(n + (junk.length + 6), n + (junk.length + 7))], n ≤ e.1 := by
   intro e he
   rcases List.mem_append.1 he with he | he
   ·exact hX e he
   ·rw [List.mem_singleton] at he
    subst he
    simp only
    omega
  generalize hX2 : X ++ [(n + (junk.length + 6), n + (junk.length + 7))] = X2 at *
  ((repeat refine Ws ?_);refine Wr ?_)
  simp (maxSteps := 1000000) only [VL,VM,↓VG,reduceIte,reduceCtorEq,zA,zB,zC,zD,zE,zF,zG,zH,zI,zJ]
  ((repeat refine Ws ?_);refine W_block ?_; (repeat refine Ws ?_)); refine W_loopS (fun k : Nat => [(0, .ptr d 0), (3, vi N), (8, .ptr n 0), (9, .ptr (n + 1) 0), (13, vi nk), (14, vi ks.length), (15, .ptr (n + (junk.length + 6)) 0), (16, vi k)]) (fun k => ⟨DH H0 d (awaysF v8 k).1 (VObj.obj [vi 0, vi 0, .sf 0 [], .sf 0 [], vi 0, vi 0, .sf 0 [], .sf 0 []] :: VObj.obj [vi wd, vi dp, .so (n + 2) 2 (ws.map plP), .so (n + 3) 2 (ss.map plP), vi bx, vi by_, .so (n + 4) 1 (bs.map intP), .so (n + 5) 6 (ks.map kiP)] :: .clm ws.length 2 :: .clm ss.length 2 :: .clm bs.length 1 :: .clm ks.length 6 :: (junk ++ [VObj.obj [vi sp.lo, vi sp.hi, vb wet, .so (n + (junk.length + 7)) 1 ((awaysF v8 k).2.map intP), vi rent, vi most], .clm (awaysF v8 k).2.length 1])), lgA ++ X2⟩) (fun k => nk - k) (fun k => k ≤ nk) 0 (Nat.zero_le _) ⟨rfl, rfl, rfl, rfl, rfl, rfl, rfl, rfl, trivial⟩ rfl ?_
  intro k hal
  have hal2 := awaysF_len v8 k
  have haw := awaysF_in v8 k
  have han : awaysF v8 (k + 1) = awayS (awaysF v8 k) := rfl
  generalize hsa : awaysF v8 k = sa at hal2 haw han ⊢
  obtain ⟨v9, aw⟩ := sa
  simp only at hal2 haw
  subst hal2
  simp only [awayS] at han
  have j1 : -9223372036854775808 ≤ (aw.length : Int) + 1 ∧ (aw.length : Int) + 1 < 9223372036854775808 := by omega
  ((repeat refine Ws ?_);refine Wr ?_)
  rcases Nat.lt_or_ge aw.length nk with hlt' | hge'
  ·have j2 : ((aw.length : Int) < (nk : Int)) = True := eq_true (by omega)
   have q1 : ((aw.length + 1) * 8 ≤ 140737488355328) = True := eq_true (by omega)
   have hc4 := castF_range (u := v9) (n := 4) (by omega)
   simp (maxSteps := 1000000) only [VL,VM,↓VG,reduceIte,reduceCtorEq,zA,zB,zC,zD,zE,zF,zG,zH,zI,zJ, j2]
   ((repeat refine Ws ?_);refine Wt (by first|rfl|simp only [EV,zF,reduceIte]) ?_)
   ((repeat refine Ws ?_);refine W_skip ?_)
   simp (maxSteps := 1000000) only [VL,VM,↓VG,reduceIte,reduceCtorEq,zA,zB,zC,zD,zE,zF,zG,zH,zI,zJ]
   ((repeat refine Ws ?_);refine W_block ?_)
   (repeat refine Ws ?_)
   refine W_drawP T_ok [] (by kernel_rfl) (by kernel_rfl) ?_
   generalize hi : mkPlan _ = infs
   cbv at hi
   subst hi
   simp (maxSteps := 1000000) only [VL,VM,↓VG,reduceIte,reduceCtorEq,zA,zB,zC,zD,zE,zF,zG,zH,zI,zJ, dg, dg0, ds, ds0, dl, da, List.getElem?_cons_succ]
   apply call_d (f := 29) (fn := Tryz.f29) (by kernel_rfl) (by rfl)
   ·exact cast_c hd' v9 4 (lgA ++ X2) (by omega)
   generalize castF v9 4 = c4 at *
   generalize castU v9 4 = v10 at *
   simp (maxSteps := 1000000) only [VL,VM,↓VG,reduceIte,reduceCtorEq,zA,zB,zC,zD,zE,zF,zG,zH,zI,zJ, dg, dg0, ds, ds0, dl, da]
   have ho4 := oneF_mem (u := v10) (xs := [0, 0, c4]) (by simp) (by simp)
   apply call_d (f := 28) (fn := Tryz.f28) (by kernel_rfl) (by rfl)
   ·exact one_c hd' v10 [0, 0, c4] (lgA ++ X2) (by simp) (by simp)
   generalize oneF v10 [0, 0, c4] = b4 at *
   generalize oneU v10 [0, 0, c4] = v11 at *
   simp (maxSteps := 1000000) only [VL,VM,↓VG,reduceIte,reduceCtorEq,zA,zB,zC,zD,zE,zF,zG,zH,zI,zJ, dg, dg0, ds, ds0, dl, da, q1, A7]
   ((repeat refine Ws ?_);refine Wr ?_)
   simp (maxSteps := 1000000) only [VL,VM,↓VG,reduceIte,reduceCtorEq,zA,zB,zC,zD,zE,zF,zG,zH,zI,zJ, j1]
   refine LoopK.mk (aw.length + 1) (by omega) (by omega) ⟨rfl, rfl, rfl, rfl, rfl, rfl, rfl, by simp [get_cons], trivial⟩ ?_
   simp only [han]
   simp
  have j2 : ((aw.length : Int) < (nk : Int)) = False := eq_false (by omega)
  have hae : aw.length = nk := by omega
  rw [hae] at hsa
  rw [hsa] at hkn2
  simp only at hkn2
  have q6 : ((ks.length + 1) * 64 ≤ 140737488355328) = True := eq_true (by omega)
  simp (maxSteps := 1000000) only [VL,VM,↓VG,reduceIte,reduceCtorEq,zA,zB,zC,zD,zE,zF,zG,zH,zI,zJ, j2]
  ((repeat refine Ws ?_);refine Wf (by first|rfl|simp only [EV,zF,reduceIte]) ?_)
  ((repeat refine Ws ?_);refine W_exit ?_)
  simp (maxSteps := 1000000) only [VL,VM,↓VG,reduceIte,reduceCtorEq,zA,zB,zC,zD,zE,zF,zG,zH,zI,zJ]
  ((repeat refine Ws ?_);refine Wr ?_)
  simp (maxSteps := 1000000) only [VL,VM,↓VG,reduceIte,reduceCtorEq,zA,zB,zC,zD,zE,zF,zG,zH,zI,zJ, dg, dg0, ds, ds0, dl, da, q6, A5', List.getElem?_cons_succ]
  ((repeat refine Ws ?_);refine Wr ?_)
  simp (maxSteps := 1000000) only [VL,VM,↓VG,reduceIte,reduceCtorEq,zA,zB,zC,zD,zE,zF,zG,zH,zI,zJ, k1]
  refine LoopK.mk ⟨ks.length + 1, junk ++ [VObj.obj [vi sp.lo, vi sp.hi, vb wet, .so (n + (junk.length + 7)) 1 (aw.map intP), vi rent, vi most], .clm aw.length 1], X2⟩ (by simp only; omega) ⟨by simp only; omega, hX'⟩ ⟨rfl, rfl, rfl, rfl, rfl, by simp [get_cons], trivial⟩ ?_
  simp only [hkn2]
  simp
 have k2 : ((ks.length : Int) < (nk : Int)) = False := eq_false (by omega)
 have hke : ks.length = nk := by omega
 rw [hke] at hsk
 have heq : hallS u W D N = (⟨wd, dp, ws, ss, ⟨bx, by_⟩, bs, ks⟩, v3) := by
  have eW : hW u W = (wd : Int) := hw0
  have eD : hD u W D = (dp : Int) := hd0
  have eU1 : hU1 u W D = u1 := hu1
  have eX : Vm.hX u W D = bx := by unfold Vm.hX; rw [eU1, eW]; exact hbx0
  have eY : hY u W D = by_ := by unfold hY; rw [eU1, eW, eD]; exact hby0
  have eU2 : hU2 u W D = u2 := by unfold hU2; rw [eU1, eW, eD]; exact hu2
  have eC : hC u W D = (v, ws, ss) := by unfold hC; rw [eW, eD, eU2, Int.toNat_natCast, Int.toNat_natCast]; exact hst
  have eNb : hNb u W D = nb := by unfold hNb; rw [eW, eD, eC, eX, eY, ← hnb, Int.toNat_natCast]
  have eB : hB u W D = (v1, bs) := by unfold hB; rw [eC, eNb]; exact hsb
  have eK : hK u W D N = (nk : Int) := by unfold hK; rw [eB]; exact hkn
  have eKs : hKs u W D N = (v3, ks) := by unfold hKs; rw [eB, eK, Int.toNat_natCast]; simp only; rw [hv2]; exact hsk
  unfold hallS
  rw [eW, eD, eC, eX, eY, eB, eKs]
 simp (maxSteps := 1000000) only [VL,VM,↓VG,reduceIte,reduceCtorEq,zA,zB,zC,zD,zE,zF,zG,zH,zI,zJ, k2]
 ((repeat refine Ws ?_);refine Wf (by first|rfl|simp only [EV,zF,reduceIte]) ?_)
 ((repeat refine Ws ?_);refine W_exit ?_)
 simp (maxSteps := 1000000) only [VL,VM,↓VG,reduceIte,reduceCtorEq,zA,zB,zC,zD,zE,zF,zG,zH,zI,zJ]
 ((repeat refine Ws ?_);refine Wr ?_)
 simp (maxSteps := 1000000) only [VL,VM,↓VG,reduceIte,reduceCtorEq,zA,zB,zC,zD,zE,zF,zG,zH,zI,zJ, dg, dg0, ds, ds0, dl, da]
 (repeat refine Ws ?_)
 refine W_ret ?_
 refine ⟨.inr rfl, rfl, ⟨[(n + 1, n + 2), (n + 1, n + 3), (n + 1, n + 4), (n + 1, n + 5)] ++ X, by rw [hlg]; simp, fun e he => ?_⟩, DH H0 d v3 [], _, DH_eq hd', by rw [DH_len, DH_len], [hallV ⟨wd, dp, ws, ss, ⟨bx, by_⟩, bs, ks⟩], ?_, hallV ⟨wd, dp, ws, ss, ⟨bx, by_⟩, bs, ks⟩, rfl, by simp [refs, refsL], by rw [heq], by rw [heq]⟩
 ·rw [DH_len]
  simp only [List.length_nil, Nat.add_zero]
  rw [hn]
  rcases List.mem_append.1 he with he | he
  ·simp only [List.mem_cons, List.not_mem_nil, or_false] at he
   rcases he with rfl | rfl | rfl | rfl <;> simp
  ·exact hX e he
 ·simp [Tryz.f7, vresL, get_cons, vload, t_hall, dg0, nat_ble, strip1]
end Go.Proofs.YtominlgikchnmaaGreatDoor.Vm
