/- A part of the proofs about the chapter of the doors; it states no condition of its own. -/
import Derived.Test.YtmagiabapakhcaaB35
import Derived.Test.YtmagiabapakhcaaB52
set_option linter.unusedVariables false
set_option linter.unusedSimpArgs false
open Int renaming reduceLE → zA, reduceLT → zB, reduceToNat → zC, reduceNeg → zD
open Nat renaming reduceLT → zE, reduceEqDiff → zF, reduceAdd → zG, reduceSub → zH, reduceMul → zI, reduceLeDiff → zJ
/- Kitchens made of numbers, as a function of the numbers. (Vm) -/
namespace Go.Proofs.Ytmagiabapakhcaa.Vm
open Go Go.Proofs
def mealsS (P u : Int) : Nat → Int × List Int
 | 0 => (u, [])
 | n + 1 => let s := mealsS P u n
  (castU s.1 (P + 1), s.2 ++ [castF s.1 (P + 1)])
def giftS (m : Nat) (P : Int) (s : Int × List Gi) : Int × List Gi :=
 let a := castF s.1 (m : Int)
 let v2 := castU s.1 (m : Int)
 let fr := fromF v2 a ((m : Int) - 1)
 let v3 := fromU v2 a ((m : Int) - 1)
 (castU v3 (P + 1), s.2 ++ [⟨a, fr, castF v3 (P + 1)⟩])
def giftsS (m : Nat) (P u : Int) : Nat → Int × List Gi
 | 0 => (u, [])
 | n + 1 => giftS m P (giftsS m P u n)
def kitS (u A B P : Int) : Kn × Int :=
 let s := mealsS P (castU u (A + 1)) (castF u (A + 1)).toNat
 let t := giftsS s.2.length P (castU s.1 (B + 1)) (if s.2.length = 0 then 0 else (castF s.1 (B + 1)).toNat)
 (⟨s.2, t.2⟩, t.1)
theorem mealsS_bd {P u : Int} (hP : 1 ≤ P ∧ P ≤ 10000) : ∀ n, (mealsS P u n).2.length = n ∧ ∀ b ∈ (mealsS P u n).2, 0 ≤ b ∧ b ≤ P
 | 0 => ⟨rfl, fun _ h => nomatch h⟩
 | n + 1 => by
  obtain ⟨h1, h2⟩ := mealsS_bd hP (u := u) n
  have c1 := castF_range (u := (mealsS P u n).1) (n := P + 1) (by omega)
  refine ⟨by show (_ ++ [_]).length = _; rw [List.length_append, h1]; rfl, fun b hb => ?_⟩
  rcases List.mem_append.1 hb with h | h
  ·exact h2 b h
  ·rw [List.mem_singleton] at h
   subst h
   omega
theorem giftsS_bd {m : Nat} {P u : Int} (hm : 0 < m ∧ m ≤ 5) (hP : 1 ≤ P ∧ P ≤ 10000) : ∀ n, (giftsS m P u n).2.length = n ∧ ∀ x ∈ (giftsS m P u n).2, GiV m x ∧ x.portions ≤ P
 | 0 => ⟨rfl, fun _ h => nomatch h⟩
 | n + 1 => by
  obtain ⟨h1, h2⟩ := giftsS_bd hm hP (u := u) n
  have c1 := castF_range (u := (giftsS m P u n).1) (n := (m : Int)) (by omega)
  have c3 := fromF_range (u := castU (giftsS m P u n).1 (m : Int)) (lo := castF (giftsS m P u n).1 (m : Int)) (hi := (m : Int) - 1) (by omega)
  have c4 := castF_range (u := fromU (castU (giftsS m P u n).1 (m : Int)) (castF (giftsS m P u n).1 (m : Int)) ((m : Int) - 1)) (n := P + 1) (by omega)
  refine ⟨by show (_ ++ [_]).length = _; rw [List.length_append, h1]; rfl, fun x hx => ?_⟩
  rcases List.mem_append.1 hx with h | h
  ·exact h2 x h
  ·rw [List.mem_singleton] at h
   subst h
   exact ⟨⟨by simp only; omega, by simp only; omega, by simp only; omega, by simp only; omega, by simp only; omega⟩, by simp only; omega⟩
theorem kitS_made {u A B P : Int} (hA : 0 ≤ A ∧ A ≤ 5) (hB : 0 ≤ B ∧ B ≤ 5) (hP : 1 ≤ P ∧ P ≤ 10000) : MadeK A B P (kitS u A B P).1 := by
 have r1 := castF_range (u := u) (n := A + 1) (by omega)
 obtain ⟨h1, h2⟩ := mealsS_bd (u := castU u (A + 1)) hP (castF u (A + 1)).toNat
 have r2 := castF_range (u := (mealsS P (castU u (A + 1)) (castF u (A + 1)).toNat).1) (n := B + 1) (by omega)
 unfold kitS
 dsimp only
 generalize mealsS P (castU u (A + 1)) (castF u (A + 1)).toNat = s at h1 h2 r2
 generalize castF u (A + 1) = w at h1 r1
 by_cases hz : s.2.length = 0
 ·rw [if_pos hz]
  refine ⟨⟨by simp only; omega, fun n hn => ?_, Nat.zero_le _, fun x hx => nomatch hx⟩, by simp only; omega, by show ((0 : Nat) : Int) ≤ B; omega, h2, fun x hx => nomatch hx⟩
  have := h2 n hn
  omega
 rw [if_neg hz]
 obtain ⟨g1, g2⟩ := giftsS_bd (m := s.2.length) (P := P) (u := castU s.1 (B + 1)) (by omega) hP (castF s.1 (B + 1)).toNat
 generalize giftsS s.2.length P (castU s.1 (B + 1)) (castF s.1 (B + 1)).toNat = t at g1 g2
 generalize castF s.1 (B + 1) = w2 at g1 r2
 exact ⟨⟨by simp only; omega, fun n hn => by have := h2 n hn; omega, by simp only; omega, fun x hx => (g2 x hx).1⟩, by simp only; omega, by simp only; omega, h2, fun x hx => ⟨(g2 x hx).1.p0, (g2 x hx).2⟩⟩
attribute [local irreducible] castF castU fromF fromU oneF oneU
set_option maxHeartbeats 4000000 in
set_option maxRecDepth 8000 in
theorem kitchenOf_d {H0 : List VObj} {d : Nat} (hd : d < H0.length) (u : Int) (lg : List (Nat × Nat)) (A B P : Int) (hA : 0 ≤ A ∧ A ≤ 5) (hB : 0 ≤ B ∧ B ≤ 5) (hP : 1 ≤ P ∧ P ≤ 10000) :
  VC Try.prog 36 [.ptr d 0, vi A, vi B, vi P] ⟨DH H0 d u [], lg⟩ (fun r M' => M' = ⟨DH H0 d (kitS u A B P).2 [], lg⟩ ∧ r = kitV (kitS u A B P).1) := by
 have rw1 := castF_range (u := u) (n := A + 1) (by omega)
 suffices hh : VC Try.prog 36 [.ptr d 0, vi A, vi B, vi P] ⟨DH H0 d u [], lg⟩ (fun r M' => ∃ (k : Kn) (u' : Int), M' = ⟨DH H0 d u' [], lg⟩ ∧ r = kitV k ∧ kitS u A B P = (k, u')) by
  refine hh.mono ?_
  rintro _ _ ⟨k, u', rfl, rfl, e⟩
  rw [e]
  exact ⟨rfl, rfl⟩
 have kA : -9223372036854775808 ≤ A + 1 ∧ A + 1 < 9223372036854775808 := by omega
 refine VC_own' T_ok (f := 36) (fn := Try.f36) (by kernel_rfl) rfl Try.ntmps36 (by rfl) (by rfl) ?_
 ((repeat refine Ws ?_);refine Wr ?_)
 simp (maxSteps := 1000000) only [VL,VM,↓VG,reduceIte,reduceCtorEq,zA,zB,zC,zD,zE,zF,zG,zH,zI,zJ, DH_app hd, DH_len, DH_len0, DH_get hd, DH_get0 hd, DH_set hd, DH_set0 hd, DH_setd, DH_die hd]
 ((repeat refine Ws ?_);refine Wr ?_)
 simp (maxSteps := 1000000) only [VL,VM,↓VG,reduceIte,reduceCtorEq,zA,zB,zC,zD,zE,zF,zG,zH,zI,zJ, DH_app hd, DH_len, DH_len0, DH_get hd, DH_get0 hd, DH_set hd, DH_set0 hd, DH_setd, DH_die hd]
 ((repeat refine Ws ?_);refine Wr ?_)
 simp (maxSteps := 1000000) only [VL,VM,↓VG,reduceIte,reduceCtorEq,zA,zB,zC,zD,zE,zF,zG,zH,zI,zJ, DH_app hd, DH_len, DH_len0, DH_get hd, DH_get0 hd, DH_set hd, DH_set0 hd, DH_setd, DH_die hd, kA]
 apply call_eq (f := 45) (fn := Try.f45) (by kernel_rfl) (by rfl)
 ·exact cast_c hd u (A + 1) lg (by omega)
 have hK : kitS u A B P = kitS u A B P := rfl
 conv at hK => rhs; unfold kitS; dsimp only
 generalize castU u (A + 1) = u1 at hK ⊢
 generalize castF u (A + 1) = w at rw1 hK ⊢
 obtain ⟨nm, rfl⟩ : ∃ m : Nat, w = (m : Int) := ⟨w.toNat, by omega⟩
 have hnA : (nm : Int) ≤ A := by omega
 rw [Int.toNat_natCast] at hK
 have hnm : nm ≤ 5 := by omega
 clear rw1
 simp (maxSteps := 1000000) only [VL,VM,↓VG,reduceIte,reduceCtorEq,zA,zB,zC,zD,zE,zF,zG,zH,zI,zJ, DH_app hd, DH_len, DH_len0, DH_get hd, DH_get0 hd, DH_set hd, DH_set0 hd, DH_setd, DH_die hd]
 refine W_ghost (id := H0.length + 1) (off := 0) (k := 1) (k0 := 0) (by rw [DH_get hd]; rfl) rfl ?_
 simp (maxSteps := 1000000) only [VL,VM,↓VG,reduceIte,reduceCtorEq,zA,zB,zC,zD,zE,zF,zG,zH,zI,zJ, DH_app hd, DH_len, DH_len0, DH_get hd, DH_get0 hd, DH_set hd, DH_set0 hd, DH_setd, DH_die hd]
 refine W_ghost (id := H0.length + 1) (off := 1) (k := 3) (k0 := 0) (by rw [DH_get hd]; rfl) rfl ?_
 simp (maxSteps := 1000000) only [VL,VM,↓VG,reduceIte,reduceCtorEq,zA,zB,zC,zD,zE,zF,zG,zH,zI,zJ, DH_app hd, DH_len, DH_len0, DH_get hd, DH_get0 hd, DH_set hd, DH_set0 hd, DH_setd, DH_die hd]
 obtain ⟨n, hn⟩ : ∃ n, H0.length = n := ⟨_, rfl⟩
 rw [hn] at hd ⊢
 obtain ⟨lgA, hlg⟩ : ∃ lgA, lgA = lg ++ [(n + 1, n + 2), (n + 1, n + 3)] := ⟨_, rfl⟩
 rw [← hlg]
 have A2 : addLg (n + 1) [n + 2] lgA = lgA := addLg_has (by rw [hlg]; simp)
 have A3 : addLg (n + 1) [n + 3] lgA = lgA := addLg_has (by rw [hlg]; simp)
 have dg : ∀ u L k, (DH H0 d u L)[n + k]? = L[k]? := fun u L k => by rw [← hn]; exact DH_get (hn ▸ hd) k
 have dg0 : ∀ u L, (DH H0 d u L)[n]? = L[0]? := fun u L => by rw [← hn]; exact DH_get0 (hn ▸ hd)
 have ds : ∀ u L k o, (DH H0 d u L).set (n + k) o = DH H0 d u (L.set k o) := fun u L k o => by rw [← hn]; exact DH_set (hn ▸ hd) k o
 have ds0 : ∀ u L o, (DH H0 d u L).set n o = DH H0 d u (L.set 0 o) := fun u L o => by rw [← hn]; exact DH_set0 (hn ▸ hd) o
 have dl : ∀ u L, (DH H0 d u L).length = n + L.length := fun u L => by rw [← hn]; exact DH_len
 have da : ∀ u L X, DH H0 d u L ++ X = DH H0 d u (L ++ X) := fun u L X => DH_app (hn ▸ hd) X
 have hd' : d < H0.length := by rw [hn]; exact hd
 have kP : -9223372036854775808 ≤ P + 1 ∧ P + 1 < 9223372036854775808 := by omega
 ((repeat refine Ws ?_);refine W_block ?_; (repeat refine Ws ?_)); refine W_loopS (fun s : KiA => [(0, .ptr d 0), (2, vi B), (3, vi P), (8, .ptr n 0), (9, .ptr (n + 1) 0), (10, vi ((nm : Int) - (s.ms.length : Int)))]) (fun s => ⟨DH H0 d s.u [.obj zeroKn, .obj [.so (n + 2) 1 (s.ms.map intP), .so (n + 3) 3 []], .clm s.ms.length 1, .clm 0 3], lgA⟩) (fun s => nm - s.ms.length) (fun s => s.ms.length ≤ nm ∧ mealsS P u1 s.ms.length = (s.u, s.ms)) ⟨u1, []⟩ ⟨Nat.zero_le _, rfl⟩ ⟨rfl, rfl, rfl, rfl, rfl, by simp [get_cons], trivial⟩ rfl ?_
 rintro ⟨v, ms⟩ ⟨hml, hms⟩
 simp only at hml hms
 ((repeat refine Ws ?_);refine Wr ?_)
 rcases Nat.lt_or_ge ms.length nm with hlt | hge
 ·have k2 : ((0 : Int) < (nm : Int) - (ms.length : Int)) = True := eq_true (by omega)
  have k3 : -9223372036854775808 ≤ (nm : Int) - (ms.length : Int) - 1 ∧ (nm : Int) - (ms.length : Int) - 1 < 9223372036854775808 := by omega
  have q1 : ((ms.length + 1) * 8 ≤ 140737488355328) = True := eq_true (by omega)
  have c1 := castF_range (u := v) (n := P + 1) (by omega)
  simp (maxSteps := 1000000) only [VL,VM,↓VG,reduceIte,reduceCtorEq,zA,zB,zC,zD,zE,zF,zG,zH,zI,zJ, k2]
  ((repeat refine Ws ?_);refine Wt (by first|rfl|simp only [EV,zF,reduceIte]) ?_)
  ((repeat refine Ws ?_);refine W_skip ?_)
  simp (maxSteps := 1000000) only [VL,VM,↓VG,reduceIte,reduceCtorEq,zA,zB,zC,zD,zE,zF,zG,zH,zI,zJ]
  ((repeat refine Ws ?_);refine W_block ?_)
  (repeat refine Ws ?_)
  refine W_drawP T_ok [] (by kernel_rfl) (by kernel_rfl) ?_
  generalize hi : mkPlan _ = infs
  cbv at hi
  subst hi
  simp (maxSteps := 1000000) only [VL,VM,↓VG,reduceIte,reduceCtorEq,zA,zB,zC,zD,zE,zF,zG,zH,zI,zJ, dg, dg0, ds, ds0, dl, da, kP]
  apply call_d (f := 45) (fn := Try.f45) (by kernel_rfl) (by rfl)
  ·exact cast_c hd' v (P + 1) lgA (by omega)
  have hst : mealsS P u1 (ms.length + 1) = (castU v (P + 1), ms ++ [castF v (P + 1)]) := by rw [mealsS, hms]
  generalize castF v (P + 1) = b at c1 hst ⊢
  generalize castU v (P + 1) = v2 at hst ⊢
  simp (maxSteps := 1000000) only [VL,VM,↓VG,reduceIte,reduceCtorEq,zA,zB,zC,zD,zE,zF,zG,zH,zI,zJ, dg, dg0, ds, ds0, dl, da, kP, q1, A2]
  ((repeat refine Ws ?_);refine Wr ?_)
  simp (maxSteps := 1000000) only [VL,VM,↓VG,reduceIte,reduceCtorEq,zA,zB,zC,zD,zE,zF,zG,zH,zI,zJ, k3]
  refine LoopK.mk ⟨v2, ms ++ [b]⟩ (by simp; omega) ⟨by simp; omega, ?_⟩ ⟨rfl, rfl, rfl, rfl, rfl, ?_, trivial⟩ (by simp)
  ·simpa using hst
  ·simp only [List.length_append, List.length_cons, List.length_nil]
   have e9 : (nm : Int) - (ms.length : Int) - 1 = (nm : Int) - ((ms.length + 1 : Nat) : Int) := by omega
   show vi ((nm : Int) - (ms.length : Int) - 1) = vi ((nm : Int) - ((ms.length + 1 : Nat) : Int))
   rw [e9]
 have k2 : ((0 : Int) < (nm : Int) - (ms.length : Int)) = False := eq_false (by omega)
 have hnl : ms.length = nm := by omega
 rw [hnl] at hms
 rw [hms] at hK
 dsimp only at hK
 simp (maxSteps := 1000000) only [VL,VM,↓VG,reduceIte,reduceCtorEq,zA,zB,zC,zD,zE,zF,zG,zH,zI,zJ, k2]
 ((repeat refine Ws ?_);refine Wf (by first|rfl|simp only [EV,zF,reduceIte]) ?_)
 ((repeat refine Ws ?_);refine W_exit ?_)
 simp (maxSteps := 1000000) only [VL,VM,↓VG,reduceIte,reduceCtorEq,zA,zB,zC,zD,zE,zF,zG,zH,zI,zJ]
 have kB : -9223372036854775808 ≤ B + 1 ∧ B + 1 < 9223372036854775808 := by omega
 have rd1 := castF_range (u := v) (n := B + 1) (by omega)
 ((repeat refine Ws ?_);refine Wr ?_)
 simp (maxSteps := 1000000) only [VL,VM,↓VG,reduceIte,reduceCtorEq,zA,zB,zC,zD,zE,zF,zG,zH,zI,zJ, kB]
 apply call_eq (f := 45) (fn := Try.f45) (by kernel_rfl) (by rfl)
 ·exact cast_c hd' v (B + 1) lgA (by omega)
 generalize castU v (B + 1) = u2 at hK ⊢
 generalize castF v (B + 1) = w at rd1 hK ⊢
 obtain ⟨ng, rfl⟩ : ∃ m : Nat, w = (m : Int) := ⟨w.toNat, by omega⟩
 have hng : ng ≤ 5 := by omega
 have hnB : (ng : Int) ≤ B := by omega
 rw [Int.toNat_natCast] at hK
 clear rd1 k2 hge hml hms u1
 simp (maxSteps := 1000000) only [VL,VM,↓VG,reduceIte,reduceCtorEq,zA,zB,zC,zD,zE,zF,zG,zH,zI,zJ]
 ((repeat refine Ws ?_);refine W_block ?_; (repeat refine Ws ?_)); refine W_loopS (fun s : KiB => [(0, .ptr d 0), (3, vi P), (8, .ptr n 0), (9, .ptr (n + 1) 0), (11, vi ((ng : Int) - (s.gs.length : Int)))]) (fun s => ⟨DH H0 d s.u (.obj zeroKn :: .obj [.so (n + 2) 1 (ms.map intP), .so (n + 3) 3 (s.gs.map giP)] :: .clm ms.length 1 :: .clm s.gs.length 3 :: s.junk), lgA⟩) (fun s => ng - s.gs.length) (fun s => s.gs.length ≤ ng ∧ (ms.length = 0 → s.gs = []) ∧ giftsS ms.length P u2 s.gs.length = (s.u, s.gs)) ⟨u2, [], []⟩ ⟨Nat.zero_le _, fun _ => rfl, rfl⟩ ⟨rfl, rfl, rfl, rfl, by simp [get_cons], trivial⟩ rfl ?_
 rintro ⟨v, gs, junk⟩ ⟨hgl, hge0, hgs⟩
 simp only at hgl hge0 hgs
 have fin : (ms.length = 0 → gs = []) → (ms.length ≠ 0 → gs.length = ng) → kitS u A B P = (⟨ms, gs⟩, v) := fun q1 q2 => by
  by_cases hz : ms.length = 0
  ·rw [if_pos hz] at hK
   have := q1 hz
   subst this
   have e : (u2, ([] : List Gi)) = (v, []) := hgs
   rw [hK, giftsS]
   dsimp only
   rw [(Prod.mk.inj e).1]
  ·rw [if_neg hz, ← q2 hz, hgs] at hK
   exact hK
 ((repeat refine Ws ?_);refine Wr ?_)
 rcases Nat.lt_or_ge gs.length ng with hlt | hge
 ·have k2 : ((0 : Int) < (ng : Int) - (gs.length : Int)) = True := eq_true (by omega)
  rcases Nat.eq_zero_or_pos ms.length with hz | hpos
  ·have k4 : ((0 : Int) < (ms.length : Int)) = False := eq_false (by omega)
   have hg0 : gs = [] := hge0 hz
   simp (maxSteps := 1000000) only [VL,VM,↓VG,reduceIte,reduceCtorEq,zA,zB,zC,zD,zE,zF,zG,zH,zI,zJ, k2, k4, dg, dg0]
   ((repeat refine Ws ?_);refine Wf (by first|rfl|simp only [EV,zF,reduceIte]) ?_)
   ((repeat refine Ws ?_);refine W_exit ?_)
   simp (maxSteps := 1000000) only [VL,VM,↓VG,reduceIte,reduceCtorEq,zA,zB,zC,zD,zE,zF,zG,zH,zI,zJ]
   ((repeat refine Ws ?_);refine Wr ?_)
   simp (maxSteps := 1000000) only [VL,VM,↓VG,reduceIte,reduceCtorEq,zA,zB,zC,zD,zE,zF,zG,zH,zI,zJ, dg, dg0, ds, ds0, dl, da]
   (repeat refine Ws ?_)
   refine W_ret ?_
   try simp only [thenQ, blockQ]
   refine ⟨.inr rfl, rfl, ⟨[(n + 1, n + 2), (n + 1, n + 3)], by rw [hlg], fun e he => ?_⟩, DH H0 d v [], _, DH_eq hd', by rw [DH_len, DH_len], [kitV ⟨ms, gs⟩], ?_, kitV ⟨ms, gs⟩, ?_, by simp [refs, refsL], ⟨ms, gs⟩, v, rfl, rfl, fin (fun _ => hg0) (fun q => absurd hz q)⟩
   ·rw [DH_len]
    simp only [List.length_nil, Nat.add_zero]
    rw [hn]
    simp only [List.mem_cons, List.not_mem_nil, or_false] at he
    rcases he with rfl | rfl <;> simp
   ·simp [Try.f36, vresL, get_cons, vload, t_kitchen, dg0, nat_ble, strip1]
   ·simp [vtup, frz, frzL]
  have k4 : ((0 : Int) < (ms.length : Int)) = True := eq_true (by omega)
  have k3 : -9223372036854775808 ≤ (ng : Int) - (gs.length : Int) - 1 ∧ (ng : Int) - (gs.length : Int) - 1 < 9223372036854775808 := by omega
  simp (maxSteps := 1000000) only [VL,VM,↓VG,reduceIte,reduceCtorEq,zA,zB,zC,zD,zE,zF,zG,zH,zI,zJ, k2, k4, dg, dg0]
  ((repeat refine Ws ?_);refine Wt (by first|rfl|simp only [EV,zF,reduceIte]) ?_)
  ((repeat refine Ws ?_);refine W_skip ?_)
  simp (maxSteps := 1000000) only [VL,VM,↓VG,reduceIte,reduceCtorEq,zA,zB,zC,zD,zE,zF,zG,zH,zI,zJ]
  ((repeat refine Ws ?_);refine W_block ?_)
  have c1 := castF_range (u := v) (n := (ms.length : Int)) (by omega)
  ((repeat refine Ws ?_);refine Wr ?_)
  simp (maxSteps := 1000000) only [VL,VM,↓VG,reduceIte,reduceCtorEq,zA,zB,zC,zD,zE,zF,zG,zH,zI,zJ, dg, dg0, ds, ds0, dl, da]
  apply call_eq (f := 45) (fn := Try.f45) (by kernel_rfl) (by rfl)
  ·exact cast_c hd' v ms.length lgA (by omega)
  have h4 : 1 ≤ (ms.length : Int) ∧ (ms.length : Int) ≤ 5 := by omega
  have hst : giftsS ms.length P u2 (gs.length + 1) = giftS ms.length P (v, gs) := by rw [giftsS, hgs]
  unfold giftS at hst
  dsimp only at hst
  generalize castF v (ms.length : Int) = a at c1 hst ⊢
  generalize castU v (ms.length : Int) = v2 at hst ⊢
  have ha : 0 ≤ a ∧ a < (ms.length : Int) := by omega
  have kq : -9223372036854775808 ≤ (ms.length : Int) - 1 ∧ (ms.length : Int) - 1 < 9223372036854775808 := by omega
  have q1 : ((gs.length + 1) * 24 ≤ 140737488355328) = True := eq_true (by omega)
  have c3 := fromF_range (u := v2) (lo := a) (hi := (ms.length : Int) - 1) (by omega)
  simp (maxSteps := 1000000) only [VL,VM,↓VG,reduceIte,reduceCtorEq,zA,zB,zC,zD,zE,zF,zG,zH,zI,zJ, dg, dg0, ds, ds0, dl, da]
  (repeat refine Ws ?_)
  refine W_drawP T_ok [] (by kernel_rfl) (by kernel_rfl) ?_
  generalize hi : mkPlan _ = infs
  cbv at hi
  subst hi
  replace ha : 0 ≤ a ∧ a < (ms.length : Int) := ha
  replace h4 : 1 ≤ (ms.length : Int) ∧ (ms.length : Int) ≤ 5 := h4
  replace c3 : a ≤ fromF v2 a ((ms.length : Int) - 1) ∧ fromF v2 a ((ms.length : Int) - 1) ≤ max a ((ms.length : Int) - 1) := c3
  replace hst : giftsS ms.length P u2 (gs.length + 1) = (castU (fromU v2 a ((ms.length : Int) - 1)) (P + 1), gs ++ [⟨a, fromF v2 a ((ms.length : Int) - 1), castF (fromU v2 a ((ms.length : Int) - 1)) (P + 1)⟩]) := hst
  replace kq : -9223372036854775808 ≤ (ms.length : Int) - 1 ∧ (ms.length : Int) - 1 < 9223372036854775808 := kq
  simp (maxSteps := 1000000) only [VL,VM,↓VG,reduceIte,reduceCtorEq,zA,zB,zC,zD,zE,zF,zG,zH,zI,zJ, dg, dg0, ds, ds0, dl, da, kP, kq]
  apply call_d (f := 51) (fn := Try.f51) (by kernel_rfl) (by rfl)
  ·exact from_c hd' v2 a ((ms.length : Int) - 1) lgA (by omega) (by omega) (by omega) (by omega)
  generalize fromF v2 a ((ms.length : Int) - 1) = fr at c3 hst ⊢
  generalize fromU v2 a ((ms.length : Int) - 1) = v3 at hst ⊢
  have c4 := castF_range (u := v3) (n := P + 1) (by omega)
  simp (maxSteps := 1000000) only [VL,VM,↓VG,reduceIte,reduceCtorEq,zA,zB,zC,zD,zE,zF,zG,zH,zI,zJ, dg, dg0, ds, ds0, dl, da, kP, kq]
  apply call_d (f := 45) (fn := Try.f45) (by kernel_rfl) (by rfl)
  ·exact cast_c hd' v3 (P + 1) lgA (by omega)
  generalize castF v3 (P + 1) = po at c4 hst ⊢
  generalize castU v3 (P + 1) = v4 at hst ⊢
  simp (maxSteps := 1000000) only [VL,VM,↓VG,reduceIte,reduceCtorEq,zA,zB,zC,zD,zE,zF,zG,zH,zI,zJ, dg, dg0, ds, ds0, dl, da, kP, kq, q1, A3]
  ((repeat refine Ws ?_);refine Wr ?_)
  simp (maxSteps := 1000000) only [VL,VM,↓VG,reduceIte,reduceCtorEq,zA,zB,zC,zD,zE,zF,zG,zH,zI,zJ, k3]
  refine LoopK.mk ⟨v4, gs ++ [⟨a, fr, po⟩], junk⟩ (by simp; omega) ⟨by simp; omega, fun q => absurd q (by omega), ?_⟩ ⟨rfl, rfl, rfl, rfl, ?_, trivial⟩ (by simp)
  ·simpa using hst
  ·simp only [List.length_append, List.length_cons, List.length_nil]
   have e9 : (ng : Int) - (gs.length : Int) - 1 = (ng : Int) - ((gs.length + 1 : Nat) : Int) := by omega
   show vi ((ng : Int) - (gs.length : Int) - 1) = vi ((ng : Int) - ((gs.length + 1 : Nat) : Int))
   rw [e9]
 have k2 : ((0 : Int) < (ng : Int) - (gs.length : Int)) = False := eq_false (by omega)
 simp (maxSteps := 1000000) only [VL,VM,↓VG,reduceIte,reduceCtorEq,zA,zB,zC,zD,zE,zF,zG,zH,zI,zJ, k2]
 ((repeat refine Ws ?_);refine Wf (by first|rfl|simp only [EV,zF,reduceIte]) ?_)
 ((repeat refine Ws ?_);refine W_exit ?_)
 simp (maxSteps := 1000000) only [VL,VM,↓VG,reduceIte,reduceCtorEq,zA,zB,zC,zD,zE,zF,zG,zH,zI,zJ]
 ((repeat refine Ws ?_);refine Wr ?_)
 simp (maxSteps := 1000000) only [VL,VM,↓VG,reduceIte,reduceCtorEq,zA,zB,zC,zD,zE,zF,zG,zH,zI,zJ, dg, dg0, ds, ds0, dl, da]
 (repeat refine Ws ?_)
 refine W_ret ?_
 try simp only [thenQ, blockQ]
 refine ⟨.inr rfl, rfl, ⟨[(n + 1, n + 2), (n + 1, n + 3)], by rw [hlg], fun e he => ?_⟩, DH H0 d v [], _, DH_eq hd', by rw [DH_len, DH_len], [kitV ⟨ms, gs⟩], ?_, kitV ⟨ms, gs⟩, ?_, by simp [refs, refsL], ⟨ms, gs⟩, v, rfl, rfl, fin hge0 (fun _ => by omega)⟩
 ·rw [DH_len]
  simp only [List.length_nil, Nat.add_zero]
  rw [hn]
  simp only [List.mem_cons, List.not_mem_nil, or_false] at he
  rcases he with rfl | rfl <;> simp
 ·simp [Try.f36, vresL, get_cons, vload, t_kitchen, dg0, nat_ble, strip1]
 ·simp [vtup, frz, frzL]
end Go.Proofs.Ytmagiabapakhcaa.Vm

/- The law of what Feed gives, on values. (Vm) -/
namespace Go.Proofs.Ytmagiabapakhcaa.Vm
open Go Go.Proofs
attribute [local irreducible] castF castU fromF fromU oneF oneU onceF
theorem W_then2' {P : Program} {cx : Cx} {e : Env} {M : Mem} {D : List Nat} {Q : PQ} {c : Code} {Kn : Env → Mem → List Nat → Prop} (E : Env) (M1 : Mem) (h1 : WCode P cx c e M D (fun ex e' M' D' => (ex = .normal ∧ D' = D ∧ M' = M1 ∧ Sub E e') ∨ (ex = .ret ∧ Q .ret e' M' D'))) (h2 : ∀ e', Sub E e' → Kn e' M1 D) : WCode P cx c e M D (thenQ Kn Q) :=
 h1.mono (by
  rintro ex e' M' D' (⟨rfl, rfl, rfl, hS⟩ | ⟨rfl, hq⟩)
  ·exact h2 e' hS
  ·exact hq)
abbrev kitPP (k : Kn) : List PV := [.sl 1 (k.meals.map intP), .sl 3 (k.gifts.map giP)]
theorem sameFeed_v (k : Kn) : ∃ v p e, feedR k = .tup [v, vi p, vi e] ∧ strip1 v = v ∧ refs v = [] ∧ isCell v = true ∧ cellsOf v = [v] ∧ ∀ M, VC Try.prog 41 [v, v] M (fun r M' => M' = M ∧ r = vb true) := by
 have nil : ∀ M, VC Try.prog 41 [.p (.sl 0 []), .p (.sl 0 [])] M (fun r M' => M' = M ∧ r = vb true) := fun M => by
  refine VC_nil0 (us := []) (k := 1) ?_
  refine VC_nil0 (us := [.p (.sl 1 [])]) (k := 1) ?_
  have := sameTables_v [] [] M (by simp) (by simp)
  rw [decide_eq_true rfl] at this
  exact this
 unfold feedR
 split
 ·rename_i h0
  unfold servR
  split
  ·exact ⟨_, _, _, rfl, rfl, rfl, rfl, rfl, nil⟩
  ·refine ⟨_, _, _, rfl, rfl, rfl, rfl, rfl, fun M => ?_⟩
   have V := kitErr_ok.1 h0
   have hz := (feed_Z V).i.ok.srv
   have hS : (feedTo k k.meals.length).1.length = k.meals.length := hz.len
   have := sameTables_v (feedTo k k.meals.length).1 (feedTo k k.meals.length).1 M (by have := V.m1; omega) (fun x hx => by
    have h1 : x.length = k.gifts.length := hz.row x hx
    have := V.g1
    omega)
   simpa using this
 ·exact ⟨_, _, _, rfl, rfl, rfl, rfl, rfl, nil⟩
set_option maxHeartbeats 8000000 in
set_option maxRecDepth 100000 in
theorem feeds_law_v (x : Kn) (xs : List Int) (M : Mem) (hl : xs.length ≤ maxLen) : VC Try.prog 5 [kitV x, intsV xs] M (fun r M' => M' = M ∧ r = vb true) := by
 refine VC_own' T_ok (f := 5) (fn := Try.f5) (by kernel_rfl) rfl Try.ntmps5 (by rfl) (by rfl) ?_
 ((repeat refine Ws ?_);refine Wr ?_)
 simp (maxSteps := 1000000) only [VL,VM,↓VG,reduceIte,reduceCtorEq,zA,zB,zC,zD,zE,zF,zG,zH,zI,zJ]
 by_cases hbig : 20 < x.meals.length ∨ 20 < x.gifts.length
 ·(repeat refine Ws ?_)
  refine W_then [(2, .ptr M.H.length 0), (25, vb true)] ⟨M.H ++ [.obj (kitC x)], M.lg⟩ ?_ ?_
  ·((repeat refine Ws ?_);refine Wr ?_)
   by_cases h1 : 20 < x.meals.length
   ·have k1 : ((20 : Int) < (x.meals.length : Int)) = True := eq_true (by omega)
    simp (maxSteps := 1000000) only [VL,VM,↓VG,reduceIte,reduceCtorEq,zA,zB,zC,zD,zE,zF,zG,zH,zI,zJ, k1]
    exact ⟨rfl, rfl, trivial⟩
   ·have k1 : ((20 : Int) < (x.meals.length : Int)) = False := eq_false (by omega)
    have k2 : ((20 : Int) < (x.gifts.length : Int)) = True := eq_true (by omega)
    simp (maxSteps := 1000000) only [VL,VM,↓VG,reduceIte,reduceCtorEq,zA,zB,zC,zD,zE,zF,zG,zH,zI,zJ, k1, k2]
    exact ⟨rfl, rfl, trivial⟩
  intro e' hS
  refine WCode.weak (e' := [(2, .ptr M.H.length 0), (25, vb true)]) ?_ (Sub.ok hS)
  ((repeat refine Ws ?_);refine Wt (by first|rfl|simp only [EV,zF,reduceIte]) ?_)
  ((repeat refine Ws ?_);refine Wr ?_)
  simp (maxSteps := 1000000) only [VL,VM,↓VG,reduceIte,reduceCtorEq,zA,zB,zC,zD,zE,zF,zG,zH,zI,zJ]
  apply call_eq (f := 18) (fn := Try.f18) (by kernel_rfl) (by rfl)
  ·exact awake_v _
  simp (maxSteps := 1000000) only [VL,VM,↓VG,reduceIte,reduceCtorEq,zA,zB,zC,zD,zE,zF,zG,zH,zI,zJ]
  (repeat refine Ws ?_)
  refine W_ret ?_
  try simp only [thenQ, blockQ]
  refine own_ret1 rfl ?_ (by rfl)
  simp only [get_cons, frz, vtup, Nat.reduceEqDiff, if_true, if_false, reduceIte]
 have b1 : x.meals.length ≤ 20 := by omega
 have b2 : x.gifts.length ≤ 20 := by omega
 have k1 : ((20 : Int) < (x.meals.length : Int)) = False := eq_false (by omega)
 have k2 : ((20 : Int) < (x.gifts.length : Int)) = False := eq_false (by omega)
 ((repeat refine Ws ?_);refine Wr ?_)
 simp (maxSteps := 1000000) only [VL,VM,↓VG,reduceIte,reduceCtorEq,zA,zB,zC,zD,zE,zF,zG,zH,zI,zJ, k1, k2]
 ((repeat refine Ws ?_);refine Wf (by first|rfl|simp only [EV,zF,reduceIte]) ?_)
 ((repeat refine Ws ?_);refine W_skip ?_)
 simp (maxSteps := 1000000) only [VL,VM,↓VG,reduceIte,reduceCtorEq,zA,zB,zC,zD,zE,zF,zG,zH,zI,zJ]
 ((repeat refine Ws ?_);refine Wr ?_)
 simp (maxSteps := 1000000) only [VL,VM,↓VG,reduceIte,reduceCtorEq,zA,zB,zC,zD,zE,zF,zG,zH,zI,zJ]
 apply call_eq (f := 35) (fn := Try.f35) (by kernel_rfl) (by rfl)
 ·exact kit_r x _ (by omega) (by omega)
 simp (maxSteps := 1000000) only [VL,VM,↓VG,reduceIte,reduceCtorEq,zA,zB,zC,zD,zE,zF,zG,zH,zI,zJ]
 clear k1 k2
 (repeat refine Ws ?_)
 refine W_then2' [(1, intsV xs), (2, .ptr M.H.length 0)] ⟨M.H ++ [.obj (kitC x)], M.lg⟩ ?_ ?_
 ·by_cases h0 : kitErr x = 0
  rotate_left
  ·have k0 : (kitErr x = 0) = False := eq_false h0
   simp (maxSteps := 1000000) only [VL,VM,↓VG,reduceIte,reduceCtorEq,zA,zB,zC,zD,zE,zF,zG,zH,zI,zJ, k0]
   ((repeat refine Ws ?_);refine Wf (by first|rfl|simp only [EV,zF,reduceIte]) ?_)
   ((repeat refine Ws ?_);refine W_skip ?_)
   exact .inl ⟨rfl, rfl, rfl, rfl, rfl, trivial⟩
  have k0 : (kitErr x = 0) = True := eq_true h0
  simp (maxSteps := 1000000) only [VL,VM,↓VG,reduceIte,reduceCtorEq,zA,zB,zC,zD,zE,zF,zG,zH,zI,zJ, k0]
  ((repeat refine Ws ?_);refine Wt (by first|rfl|simp only [EV,zF,reduceIte]) ?_)
  ((repeat refine Ws ?_);refine Wr ?_)
  simp (maxSteps := 1000000) only [VL,VM,↓VG,reduceIte,reduceCtorEq,zA,zB,zC,zD,zE,zF,zG,zH,zI,zJ]
  ((repeat refine Ws ?_);refine W_block ?_; (repeat refine Ws ?_)); refine W_loopS (fun i : Nat => [(1, intsV xs), (2, .ptr M.H.length 0), (5, vi i)]) (fun _ => ⟨M.H ++ [.obj (kitC x)], M.lg⟩) (fun i => x.gifts.length - i) (fun i => i ≤ x.gifts.length) 0 (Nat.zero_le _) ⟨rfl, rfl, rfl, trivial⟩ rfl ?_
  intro i hi
  have k1 : -9223372036854775808 ≤ (i : Int) + 1 ∧ (i : Int) + 1 < 9223372036854775808 := by omega
  ((repeat refine Ws ?_);refine Wr ?_)
  rcases Nat.lt_or_ge i x.gifts.length with hlt | hge
  ·have k2 : ((i : Int) < (x.gifts.length : Int)) = True := eq_true (by omega)
   have hx' := giAt_get hlt
   simp (maxSteps := 1000000) only [VL,VM,↓VG,reduceIte,reduceCtorEq,zA,zB,zC,zD,zE,zF,zG,zH,zI,zJ, k2]
   ((repeat refine Ws ?_);refine Wt (by first|rfl|simp only [EV,zF,reduceIte]) ?_)
   ((repeat refine Ws ?_);refine W_skip ?_)
   simp (maxSteps := 1000000) only [VL,VM,↓VG,reduceIte,reduceCtorEq,zA,zB,zC,zD,zE,zF,zG,zH,zI,zJ]
   ((repeat refine Ws ?_);refine W_block ?_)
   ((repeat refine Ws ?_);refine Wr ?_)
   by_cases h4 : 40 < (giAt x i).portions
   ·have k4 : (40 < (giAt x i).portions) = True := eq_true h4
    simp (maxSteps := 1000000) only [VL,VM,↓VG,reduceIte,reduceCtorEq,zA,zB,zC,zD,zE,zF,zG,zH,zI,zJ, hx', k4]
    ((repeat refine Ws ?_);refine Wt (by first|rfl|simp only [EV,zF,reduceIte]) ?_)
    ((repeat refine Ws ?_);refine Wr ?_)
    simp (maxSteps := 1000000) only [VL,VM,↓VG,reduceIte,reduceCtorEq,zA,zB,zC,zD,zE,zF,zG,zH,zI,zJ]
    apply call_eq (f := 18) (fn := Try.f18) (by kernel_rfl) (by rfl)
    ·exact awake_v _
    simp (maxSteps := 1000000) only [VL,VM,↓VG,reduceIte,reduceCtorEq,zA,zB,zC,zD,zE,zF,zG,zH,zI,zJ]
    (repeat refine Ws ?_)
    refine W_ret ?_
    try simp only [thenQ, blockQ]
    refine .inr ⟨trivial, ?_⟩
    refine own_ret1 rfl ?_ (by rfl)
    simp only [get_cons, frz, vtup, Nat.reduceEqDiff, if_true, if_false, reduceIte]
   have k4 : (40 < (giAt x i).portions) = False := eq_false h4
   simp (maxSteps := 1000000) only [VL,VM,↓VG,reduceIte,reduceCtorEq,zA,zB,zC,zD,zE,zF,zG,zH,zI,zJ, hx', k4]
   ((repeat refine Ws ?_);refine Wf (by first|rfl|simp only [EV,zF,reduceIte]) ?_)
   ((repeat refine Ws ?_);refine W_skip ?_)
   simp (maxSteps := 1000000) only [VL,VM,↓VG,reduceIte,reduceCtorEq,zA,zB,zC,zD,zE,zF,zG,zH,zI,zJ]
   ((repeat refine Ws ?_);refine Wr ?_)
   simp (maxSteps := 1000000) only [VL,VM,↓VG,reduceIte,reduceCtorEq,zA,zB,zC,zD,zE,zF,zG,zH,zI,zJ, k1]
   exact LoopK.mk (i + 1) (by omega) (by omega) ⟨rfl, rfl, rfl, trivial⟩ rfl
  have k2 : ((i : Int) < (x.gifts.length : Int)) = False := eq_false (by omega)
  simp (maxSteps := 1000000) only [VL,VM,↓VG,reduceIte,reduceCtorEq,zA,zB,zC,zD,zE,zF,zG,zH,zI,zJ, k2]
  ((repeat refine Ws ?_);refine Wf (by first|rfl|simp only [EV,zF,reduceIte]) ?_)
  ((repeat refine Ws ?_);refine W_exit ?_)
  simp (maxSteps := 1000000) only [VL,VM,↓VG,reduceIte,reduceCtorEq,zA,zB,zC,zD,zE,zF,zG,zH,zI,zJ]
  refine .inl ?_
  exact ⟨rfl, rfl, trivial⟩
 intro e' hS
 refine WCode.weak (e' := [(1, intsV xs), (2, .ptr M.H.length 0)]) ?_ (Sub.ok hS)
 clear hS e'
 ((repeat refine Ws ?_);refine Wr ?_)
 simp (maxSteps := 1000000) only [VL,VM,↓VG,reduceIte,reduceCtorEq,zA,zB,zC,zD,zE,zF,zG,zH,zI,zJ]
 apply call_eq (f := 20) (fn := Try.f20) (by kernel_rfl) (by rfl)
 ·exact dieOf_v xs _ hl
 obtain ⟨M1, hM1⟩ : ∃ M1, M1 = M.H ++ [VObj.obj (kitC x)] := ⟨_, rfl⟩
 obtain ⟨H0, hH0⟩ : ∃ H0, H0 = M1 ++ [VObj.dead] := ⟨_, rfl⟩
 obtain ⟨d, hdd⟩ : ∃ d, d = M1.length := ⟨_, rfl⟩
 have hd : d < H0.length := by rw [hH0, hdd]; simp
 have hlen0 : H0.length = M.H.length + 2 := by rw [hH0, hM1]; simp
 have hlen1 : d = M.H.length + 1 := by rw [hdd, hM1]; simp
 have hbx : ∀ u L, (DH H0 d u L)[M.H.length]? = some (VObj.obj (kitC x)) := fun u L => by
  have := DH_tail ⟨M1, M.lg⟩ u L
  rw [hH0, hdd, this, hM1]
  simp
 rw [← hM1, ← hH0, ← hdd]
 have tail : ∀ u L, DH H0 d u L = M.H ++ (VObj.obj (kitC x) :: .obj [uv u] :: L) := fun u L => by
  rw [hH0, hdd]
  have := DH_tail ⟨M1, M.lg⟩ u L
  rw [this, hM1]
  simp
 generalize dieU xs = u0
 simp (maxSteps := 1000000) only [VL,VM,↓VG,reduceIte,reduceCtorEq,zA,zB,zC,zD,zE,zF,zG,zH,zI,zJ]
 have o1 := oneF_mem (u := u0) (xs := [3, 30]) (by simp) (by simp)
 (repeat refine Ws ?_)
 refine W_drawP T_ok [] (by kernel_rfl) (by kernel_rfl) ?_
 generalize hi : mkPlan _ = infs
 cbv at hi
 subst hi
 simp (maxSteps := 1000000) only [VL,VM,↓VG,reduceIte,reduceCtorEq,zA,zB,zC,zD,zE,zF,zG,zH,zI,zJ, DH_app hd, DH_len, DH_len0, DH_get hd, DH_get0 hd, DH_set hd, DH_set0 hd, DH_setd, DH_die hd, hbx]
 apply call_d (f := 28) (fn := Try.f28) (by kernel_rfl) (by rfl)
 ·exact one_c hd u0 [3, 30] M.lg (by simp) (by simp)
 generalize oneF u0 [3, 30] = P at o1 ⊢
 generalize oneU u0 [3, 30] = u1
 have hP : 1 ≤ P ∧ P ≤ 10000 := by
  simp only [List.mem_cons, List.not_mem_nil, or_false] at o1
  rcases o1 with e | e <;> rw [e] <;> omega
 simp (maxSteps := 1000000) only [VL,VM,↓VG,reduceIte,reduceCtorEq,zA,zB,zC,zD,zE,zF,zG,zH,zI,zJ, DH_app hd, DH_len, DH_len0, DH_get hd, DH_get0 hd, DH_set hd, DH_set0 hd, DH_setd, DH_die hd, hbx]
 have mk := kitS_made (u := u1) (A := 4) (B := 4) (P := P) (by omega) (by omega) hP
 have kd := kitchenOf_d hd u1 M.lg 4 4 P (by omega) (by omega) hP
 generalize kitS u1 4 4 P = ku at mk kd
 obtain ⟨made, u2⟩ := ku
 dsimp only at mk kd
 apply call_d (f := 36) (fn := Try.f36) (by kernel_rfl) (by rfl)
 ·exact kd
 simp (maxSteps := 1000000) only [VL,VM,↓VG,reduceIte,reduceCtorEq,zA,zB,zC,zD,zE,zF,zG,zH,zI,zJ, DH_app hd, DH_len, DH_len0, DH_get hd, DH_get0 hd, DH_set hd, DH_set0 hd, DH_setd, DH_die hd, hbx]
 have mV := mk.V
 have n1 := mV.m1
 have d1 := mV.g1
 obtain ⟨ks, hks⟩ : ∃ ks, ks = [x, made] := ⟨_, rfl⟩
 have ks2 : ks.length = 2 := by rw [hks]; rfl
 have hFs : ∀ y ∈ ks, y.meals.length ≤ 100 ∧ y.gifts.length ≤ 100 := by
  rw [hks]
  intro y hy
  simp only [List.mem_cons, List.not_mem_nil, or_false] at hy
  rcases hy with rfl | rfl <;> omega
 rw [tail]
 ((repeat refine Ws ?_);refine Wr ?_)
 simp (maxSteps := 1000000) only [VL,VM,↓VG,reduceIte,reduceCtorEq,zA,zB,zC,zD,zE,zF,zG,zH,zI,zJ]
 ((repeat refine Ws ?_);refine W_block ?_; (repeat refine Ws ?_)); refine W_loopS (fun s : JSt => [(7, .sf 2 (ks.map kitPP)), (8, vi s.i)]) (fun s => ⟨M.H ++ (VObj.obj (kitC x) :: VObj.obj [uv u2] :: s.junk), M.lg⟩) (fun s => 2 - s.i) (fun s => s.i ≤ 2) ⟨0, []⟩ (Nat.zero_le _) ⟨?_, rfl, trivial⟩ rfl ?_
 ·rw [hks]; simp [get_cons]
 rintro ⟨i, junk⟩ hi
 simp only at hi
 have k1 : -9223372036854775808 ≤ (i : Int) + 1 ∧ (i : Int) + 1 < 9223372036854775808 := by omega
 ((repeat refine Ws ?_);refine Wr ?_)
 rcases Nat.lt_or_ge i 2 with hlt | hge
 rotate_left
 ·have k2 : ((i : Int) < ((2 : Nat) : Int)) = False := eq_false (by omega)
  simp (maxSteps := 1000000) only [VL,VM,↓VG,reduceIte,reduceCtorEq,zA,zB,zC,zD,zE,zF,zG,zH,zI,zJ, List.length_map, ks2, k2]
  ((repeat refine Ws ?_);refine Wf (by first|rfl|simp only [EV,zF,reduceIte]) ?_)
  ((repeat refine Ws ?_);refine W_exit ?_)
  simp (maxSteps := 1000000) only [VL,VM,↓VG,reduceIte,reduceCtorEq,zA,zB,zC,zD,zE,zF,zG,zH,zI,zJ]
  ((repeat refine Ws ?_);refine Wr ?_)
  simp (maxSteps := 1000000) only [VL,VM,↓VG,reduceIte,reduceCtorEq,zA,zB,zC,zD,zE,zF,zG,zH,zI,zJ]
  apply call_eq (f := 18) (fn := Try.f18) (by kernel_rfl) (by rfl)
  ·exact awake_v _
  simp (maxSteps := 1000000) only [VL,VM,↓VG,reduceIte,reduceCtorEq,zA,zB,zC,zD,zE,zF,zG,zH,zI,zJ]
  (repeat refine Ws ?_)
  refine W_ret ?_
  try simp only [thenQ, blockQ]
  refine own_ret1 rfl ?_ (by rfl)
  simp only [get_cons, frz, vtup, Nat.reduceEqDiff, if_true, if_false, reduceIte]
 have k2 : ((i : Int) < ((2 : Nat) : Int)) = True := eq_true (by omega)
 have hx : ks[i]? = some (ks[i]'(by omega)) := List.getElem?_eq_getElem (by omega)
 obtain ⟨f1, f2⟩ := hFs _ (List.getElem_mem (l := ks) (n := i) (by omega))
 generalize ks[i]'(by omega) = h at hx f1 f2
 have hx' := map_at (f := kitPP) hx
 clear hx hFs
 obtain ⟨v, p, e, hv, hv1, hv2, hv3, hv4, hv5⟩ := sameFeed_v h
 simp (maxSteps := 1000000) only [VL,VM,↓VG,reduceIte,reduceCtorEq,zA,zB,zC,zD,zE,zF,zG,zH,zI,zJ, List.length_map, ks2, k2]
 ((repeat refine Ws ?_);refine Wt (by first|rfl|simp only [EV,zF,reduceIte]) ?_)
 ((repeat refine Ws ?_);refine W_skip ?_)
 simp (maxSteps := 1000000) only [VL,VM,↓VG,reduceIte,reduceCtorEq,zA,zB,zC,zD,zE,zF,zG,zH,zI,zJ]
 ((repeat refine Ws ?_);refine W_block ?_)
 ((repeat refine Ws ?_);refine Wr ?_)
 simp (maxSteps := 1000000) only [VL,VM,↓VG,reduceIte,reduceCtorEq,zA,zB,zC,zD,zE,zF,zG,zH,zI,zJ, hx']
 apply call_eq (f := 37) (fn := Try.f37) (by kernel_rfl) (by rfl)
 ·exact copyKitchen_v h _ (by omega) (by omega)
 simp (maxSteps := 1000000) only [VL,VM,↓VG,reduceIte,reduceCtorEq,zA,zB,zC,zD,zE,zF,zG,zH,zI,zJ, hx']
 ((repeat refine Ws ?_);refine Wr ?_)
 simp (maxSteps := 1000000) only [VL,VM,↓VG,reduceIte,reduceCtorEq,zA,zB,zC,zD,zE,zF,zG,zH,zI,zJ]
 apply call_eq (f := 38) (fn := Try.f38) (by kernel_rfl) (by rfl)
 ·exact Feed_v h _ (by omega) (by omega)
 rw [hv]
 simp (maxSteps := 1000000) only [VL,VM,↓VG,reduceIte,reduceCtorEq,zA,zB,zC,zD,zE,zF,zG,zH,zI,zJ, hv1]
 ((repeat refine Ws ?_);refine Wr ?_)
 simp (maxSteps := 1000000) only [VL,VM,↓VG,reduceIte,reduceCtorEq,zA,zB,zC,zD,zE,zF,zG,zH,zI,zJ, hx']
 apply call_eq (f := 39) (fn := Try.f39) (by kernel_rfl) (by rfl)
 ·exact Feed_r h _ (by omega) (by omega)
 rw [hv]
 simp (maxSteps := 1000000) only [VL,VM,↓VG,reduceIte,reduceCtorEq,zA,zB,zC,zD,zE,zF,zG,zH,zI,zJ, hv1]
 (repeat refine Ws ?_)
 refine W_drawP T_ok [] (by kernel_rfl) (by kernel_rfl) ?_
 generalize hi : mkPlan _ = infs
 cbv at hi
 subst hi
 simp (maxSteps := 1000000) only [VL,VM,↓VG,reduceIte,reduceCtorEq,zA,zB,zC,zD,zE,zF,zG,zH,zI,zJ, hx', eq_self, decide_true, Bool.not_true]
 apply call_d (f := 40) (fn := Try.f40) (by kernel_rfl) (by rfl)
 ·exact kit_v h _ (by omega) (by omega)
 simp (maxSteps := 1000000) only [VL,VM,↓VG,reduceIte,reduceCtorEq,zA,zB,zC,zD,zE,zF,zG,zH,zI,zJ, hx', eq_self, decide_true, Bool.not_true]
 apply call_d (f := 35) (fn := Try.f35) (by kernel_rfl) (by rfl)
 ·exact kit_r h _ (by omega) (by omega)
 simp (maxSteps := 1000000) only [VL,VM,↓VG,reduceIte,reduceCtorEq,zA,zB,zC,zD,zE,zF,zG,zH,zI,zJ, hx', eq_self, decide_true, Bool.not_true]
 refine call_d (f := 41) (fn := Try.f41) (by kernel_rfl) (by rfl) (by simp only [List.map_cons, List.map_nil, hv1]; exact hv5 _) ?_
 simp (maxSteps := 1000000) only [VL,VM,↓VG,reduceIte,reduceCtorEq,zA,zB,zC,zD,zE,zF,zG,zH,zI,zJ, hx', eq_self, decide_true, Bool.not_true]
 apply call_d (f := 42) (fn := Try.f42) (by kernel_rfl) (by rfl)
 ·exact sameKitchen_v h _ (by omega) (by omega)
 simp (maxSteps := 1000000) only [VL,VM,↓VG,reduceIte,reduceCtorEq,zA,zB,zC,zD,zE,zF,zG,zH,zI,zJ, hx', eq_self, decide_true, Bool.not_true]
 ((repeat refine Ws ?_);refine Wf (by first|rfl|simp only [EV,zF,reduceIte]) ?_)
 ((repeat refine Ws ?_);refine W_skip ?_)
 simp (maxSteps := 1000000) only [VL,VM,↓VG,reduceIte,reduceCtorEq,zA,zB,zC,zD,zE,zF,zG,zH,zI,zJ]
 ((repeat refine Ws ?_);refine Wr ?_)
 simp (maxSteps := 1000000) only [VL,VM,↓VG,reduceIte,reduceCtorEq,zA,zB,zC,zD,zE,zF,zG,zH,zI,zJ, k1]
 refine LoopK.mk ⟨i + 1, junk ++ [VObj.obj (kitC h)]⟩ (by simp only; omega) (by simp only; omega) ⟨rfl, rfl, trivial⟩ rfl
end Go.Proofs.Ytmagiabapakhcaa.Vm
