/- A part of the proofs about the chapter of the ramps; it states no condition of its own. -/
import Derived.Test.YthcicaelnchfdaaB17
import Derived.Test.YthcicaelnchfdaaB23
import Derived.Test.YthcicaelnchfdaaB37
import Derived.Test.YthcicaelnchfdaaB38
import Derived.Test.YthcicaelnchfdaaB39
import Derived.Test.YthcicaelnchfdaaB43
import Derived.Test.YthcicaelnchfdaaB45
set_option linter.unusedVariables false
set_option linter.unusedSimpArgs false
open Int renaming reduceLE → zA, reduceLT → zB, reduceToNat → zC, reduceNeg → zD
open Nat renaming reduceLT → zE, reduceEqDiff → zF, reduceAdd → zG, reduceSub → zH, reduceMul → zI, reduceLeDiff → zJ
/- All true times, plain. -/
namespace Go.Proofs.Ythcicaelnchfdaa
def widT (c : Ct) : Nat := (c.takes.hi + 1 - c.takes.lo).toNat
def extT (c : Ct) (a : List Int) : List (List Int) := (List.range (widT c)).map fun q : Nat => a ++ [c.takes.lo + (q : Int)]
def allT (y : Ya) : Nat → List (List Int)
 | 0 => [[]]
 | i + 1 => (allT y i).flatMap (extT (ctAt y i))
theorem tkAt_app {l : List Int} {x : Int} {i : Nat} : tkAt (l ++ [x]) i = if i < l.length then tkAt l i else if i = l.length then x else 0 := by
 unfold tkAt
 rw [List.getD_eq_getElem?_getD, List.getD_eq_getElem?_getD]
 split
 ·rename_i h; rw [List.getElem?_append_left h]
 ·rename_i h
  rw [List.getElem?_append_right (by omega)]
  split
  ·rename_i h2; rw [h2, Nat.sub_self]; rfl
  ·rename_i h2
   rw [List.getElem?_eq_none (by simp; omega)]; rfl
theorem allT_bd {y : Ya} : ∀ (i : Nat) (x : List Int), x ∈ allT y i → x.length = i ∧ ∀ j, j < i → (ctAt y j).takes.lo ≤ tkAt x j ∧ tkAt x j ≤ (ctAt y j).takes.hi
 | 0, x, h => by
  rw [allT, List.mem_singleton] at h
  subst h
  exact ⟨rfl, fun j hj => by omega⟩
 | i + 1, x, h => by
  rw [allT, List.mem_flatMap] at h
  obtain ⟨a, ha, hx⟩ := h
  obtain ⟨h1, h2⟩ := allT_bd i a ha
  obtain ⟨q, hq, rfl⟩ := List.mem_map.1 hx
  have hq' := List.mem_range.1 hq
  unfold widT at hq'
  refine ⟨by simp [h1], fun j hj => ?_⟩
  rw [tkAt_app]
  by_cases hji : j < i
  ·rw [if_pos (by omega)]; exact h2 j hji
  ·rw [if_neg (by omega), if_pos (by omega), show j = i by omega]; omega
theorem bd_allT {y : Ya} : ∀ (i : Nat) (x : List Int), x.length = i → (∀ j, j < i → (ctAt y j).takes.lo ≤ tkAt x j ∧ tkAt x j ≤ (ctAt y j).takes.hi) → x ∈ allT y i
 | 0, x, h, _ => by rw [List.length_eq_zero_iff.1 h]; simp [allT]
 | i + 1, x, h, hb => by
  rcases List.eq_nil_or_concat x with rfl | ⟨a, z, rfl⟩
  ·simp at h
  ·rw [List.concat_eq_append] at h hb ⊢
   have hl : a.length = i := by simpa using h
   rw [allT, List.mem_flatMap]
   refine ⟨a, bd_allT i a hl fun j hj => ?_, List.mem_map.2 ⟨(z - (ctAt y i).takes.lo).toNat, ?_, ?_⟩⟩
   ·have := hb j (by omega)
    rw [tkAt_app, if_pos (by omega)] at this
    exact this
   ·have := hb i (by omega)
    rw [tkAt_app, if_neg (by omega), if_pos hl.symm] at this
    rw [List.mem_range]
    unfold widT
    omega
   ·have := hb i (by omega)
    rw [tkAt_app, if_neg (by omega), if_pos hl.symm] at this
    congr 2
    omega
theorem extT_len (c : Ct) (a : List Int) : (extT c a).length = widT c := by simp [extT]
theorem flatT_len (c : Ct) : ∀ l : List (List Int), (l.flatMap (extT c)).length = l.length * widT c
 | [] => by simp
 | a :: l => by rw [List.flatMap_cons, List.length_append, extT_len, flatT_len c l, List.length_cons, Nat.succ_mul, Nat.add_comm]
theorem allT_len {y : Ya} (hw : ∀ c ∈ y.carts, widT c ≤ 12) : ∀ i, i ≤ y.carts.length → (allT y i).length ≤ 12 ^ i
 | 0, _ => Nat.le_refl _
 | i + 1, h => by
  have ih := allT_len hw i (by omega)
  have := hw _ (ctAt_mem (y := y) (i := i) (by omega))
  rw [allT, flatT_len, Nat.pow_succ]
  exact Nat.mul_le_mul ih this
theorem held_mono {y : Ya} {p : List St} {tk tk' : List Int} (h : heldB y p tk = true) (hle : ∀ i, i < p.length → tkAt tk' i ≤ tkAt tk i) : heldB y p tk' = true := by
 obtain ⟨h1, h2⟩ := heldB_iff.1 h
 refine heldB_iff.2 ⟨fun i hi => ?_, fun i k hi hk => ?_⟩
 ·have a := okSelf_iff.1 (h1 i hi)
  have b := hle i hi
  exact okSelf_iff.2 ⟨a.1, a.2.1, by omega, by omega⟩
 ·have b := hle i hi
  rw [okPair_iff]
  intro x1 x2 x3
  have := okPair_iff.1 (h2 i k hi hk) x1 x2 x3
  omega
theorem shortest_at' {y : Ya} {i : Nat} (h : i < y.carts.length) : tkAt (shortest y) i = (ctAt y i).takes.lo := by simp [tkAt, shortest, ctAt, h]
theorem ends_all {y : Ya} (hy : YaV y) {p : List St} (hp : PlV y p) : (allT y y.carts.length).all (heldB y p) = heldB y p (longest y) ∧ (allT y y.carts.length).any (heldB y p) = heldB y p (shortest y) := by
 have hl := hp.len
 have hL : longest y ∈ allT y y.carts.length := bd_allT _ _ (by simp [longest]) fun j hj => by
  rw [longest_at hj]
  have := (hy.ct _ (ctAt_mem hj)).lh
  omega
 have hS : shortest y ∈ allT y y.carts.length := bd_allT _ _ (by simp [shortest]) fun j hj => by
  rw [shortest_at' hj]
  have := (hy.ct _ (ctAt_mem hj)).lh
  omega
 constructor
 ·cases h : heldB y p (longest y) with
  | true =>
   rw [List.all_eq_true]
   intro x hx
   obtain ⟨_, h2⟩ := allT_bd _ _ hx
   exact held_mono h fun i hi => by rw [longest_at (by omega)]; exact (h2 i (by omega)).2
  | false =>
   rw [List.all_eq_false]
   exact ⟨_, hL, by rw [h]; decide⟩
 ·cases h : heldB y p (shortest y) with
  | true => exact List.any_eq_true.2 ⟨_, hS, h⟩
  | false =>
   rw [List.any_eq_false]
   intro x hx hh
   obtain ⟨_, h2⟩ := allT_bd _ _ hx
   have := held_mono hh (tk' := shortest y) fun i hi => by rw [shortest_at' (by omega)]; exact (h2 i (by omega)).1
   rw [h] at this; cases this
theorem short_long {y : Ya} (hy : YaV y) {p : List St} (hp : PlV y p) (h : heldB y p (longest y) = true) : heldB y p (shortest y) = true := by
 have hl := hp.len
 refine held_mono h fun i hi => ?_
 rw [longest_at (by omega), shortest_at' (by omega)]
 exact (hy.ct _ (ctAt_mem (by omega))).lh
end Go.Proofs.Ythcicaelnchfdaa

/- The law of all true times, on values. (Vm) -/
namespace Go.Proofs.Ythcicaelnchfdaa.Vm
open Go Go.Proofs
theorem so_p {w : World} {K : Nat → Option Nat} {H : List VObj} {v : Value} {g k : Nat} {xs : List (List PV)} (h : RepV w K H v (.so g k xs)) : RepV w K H v (.p (.sl k xs)) := by
 cases h with
 | so _ _ _ _ h ht => exact .p _ _ h
structure E3 where
 j : Nat
 junk : List VObj
attribute [local irreducible] castF castU fromF fromU oneF oneU yardS slotsS
set_option maxHeartbeats 8000000 in
set_option maxRecDepth 100000 in
theorem ends_law_v (xs : List Int) (M : Mem) (hl : xs.length ≤ maxLen) : VC Try.prog 10 [intsV xs] M (fun r M' => M' = M ∧ r = vb true) := by
 refine VC_own' T_ok (f := 10) (fn := Try.f10) (by kernel_rfl) rfl Try.ntmps10 (by rfl) (by rfl) ?_
 ((repeat refine Ws ?_);refine W_regionE T_ok ?_; intro Kn hKn)
 ((simp (maxSteps := 1000000) only [VL,VM,↓VG,reduceIte,reduceCtorEq,zA,zB,zC,zD,zE,zF,zG,zH,zI,zJ]); rw [hKn]; clear hKn; clear Kn; simp only [thenQ.eq_1, thenQ.eq_2, blockQ.eq_1, blockQ.eq_2, reduceIte, reduceCtorEq, Nat.reduceEqDiff])
 ((repeat refine Ws ?_);refine Wr ?_)
 simp (maxSteps := 1000000) only [VL,VM,↓VG,reduceIte,reduceCtorEq,zA,zB,zC,zD,zE,zF,zG,zH,zI,zJ]
 apply call_eq (f := 17) (fn := Try.f17) (by kernel_rfl) (by rfl)
 ·exact dieOf_v xs _ hl
 obtain ⟨H0, hH0⟩ : ∃ H0, H0 = M.H ++ [VObj.dead] := ⟨_, rfl⟩
 obtain ⟨d, hdd⟩ : ∃ d, d = M.H.length := ⟨_, rfl⟩
 have hd : d < H0.length := by rw [hH0, hdd]; simp
 have hlen0 : H0.length = M.H.length + 1 := by rw [hH0]; simp
 have tail : ∀ u L, DH H0 d u L = M.H ++ (.obj [uv u] :: L) := fun u L => by
  rw [hH0, hdd]
  exact DH_tail M u L
 rw [← hH0, ← hdd]
 generalize dieU xs = u0
 simp (maxSteps := 1000000) only [VL,VM,↓VG,reduceIte,reduceCtorEq,zA,zB,zC,zD,zE,zF,zG,zH,zI,zJ]
 ((repeat refine Ws ?_);refine Wr ?_)
 simp (maxSteps := 1000000) only [VL,VM,↓VG,reduceIte,reduceCtorEq,zA,zB,zC,zD,zE,zF,zG,zH,zI,zJ]
 apply call_eq (f := 18) (fn := Try.f18) (by kernel_rfl) (by rfl)
 ·exact yardOf_d hd u0 M.lg 2 3 12 (by omega) (by omega) (by omega)
 have md := yardS_made (u := u0) (A := 2) (B := 3) (m := 12) (by omega) (by omega) (by omega)
 generalize yardS u0 2 3 12 = y2 at md ⊢
 obtain ⟨y, u2⟩ := y2
 simp only at md ⊢
 have hy := md.V (by omega) (by omega) (by omega)
 have lens := md.len (by omega) (by omega)
 have hc3 := md.m1
 simp (maxSteps := 1000000) only [VL,VM,↓VG,reduceIte,reduceCtorEq,zA,zB,zC,zD,zE,zF,zG,zH,zI,zJ, DH_app hd, DH_len, DH_len0, DH_get hd, DH_get0 hd, DH_set hd, DH_set0 hd, DH_setd, DH_die hd]
 ((repeat refine Ws ?_);refine Wr ?_)
 simp (maxSteps := 1000000) only [VL,VM,↓VG,reduceIte,reduceCtorEq,zA,zB,zC,zD,zE,zF,zG,zH,zI,zJ, DH_app hd, DH_len, DH_len0, DH_get hd, DH_get0 hd, DH_set hd, DH_set0 hd, DH_setd, DH_die hd]
 have hslots := slotsOf_d (H0 := H0 ++ [.obj (yardC y)]) (d := d) (by rw [List.length_append]; omega) u2 M.lg hy lens 12 (by omega)
 rw [← DH_base, ← DH_base] at hslots
 apply call_eq (f := 36) (fn := Try.f36) (by kernel_rfl) (by rfl)
 ·exact hslots
 obtain ⟨b, u3, p, hsl⟩ : ∃ b u3 p, slotsS y 12 u2 y.carts.length = (b, u3, p) := ⟨_, _, _, rfl⟩
 rw [hsl]
 simp (maxSteps := 1000000) only [VL,VM,↓VG,reduceIte,reduceCtorEq,zA,zB,zC,zD,zE,zF,zG,zH,zI,zJ]
 rw [tail, hlen0]
 cases b with
 | false =>
  ((repeat refine Ws ?_);refine W_regionE T_ok ?_; intro Kn hKn)
  ((simp (maxSteps := 1000000) only [VL,VM,↓VG,reduceIte,reduceCtorEq,zA,zB,zC,zD,zE,zF,zG,zH,zI,zJ]); rw [hKn]; clear hKn; clear Kn; simp only [thenQ.eq_1, thenQ.eq_2, blockQ.eq_1, blockQ.eq_2, reduceIte, reduceCtorEq, Nat.reduceEqDiff])
  ((repeat refine Ws ?_);refine Wt (by first|rfl|simp only [EV,zF,reduceIte]) ?_)
  ((repeat refine Ws ?_);refine W_regionE T_ok ?_; intro Kn hKn)
  simp (maxSteps := 1000000) only [VL,VM,↓VG,reduceIte,reduceCtorEq,zA,zB,zC,zD,zE,zF,zG,zH,zI,zJ]
  apply call_eq (f := 16) (fn := Try.f16) (by kernel_rfl) (by rfl)
  ·exact awake_v _
  ((simp (maxSteps := 1000000) only [VL,VM,↓VG,reduceIte,reduceCtorEq,zA,zB,zC,zD,zE,zF,zG,zH,zI,zJ]); rw [hKn]; clear hKn; clear Kn; simp only [thenQ.eq_1, thenQ.eq_2, blockQ.eq_1, blockQ.eq_2, reduceIte, reduceCtorEq, Nat.reduceEqDiff])
  (repeat refine Ws ?_)
  refine W_ret ?_
  try simp only [thenQ, blockQ]
  refine own_ret1 rfl ?_ (by rfl)
  simp only [get_cons, frz, vtup, Nat.reduceEqDiff, if_true, if_false, reduceIte]
 | true =>
  have pv := slots_pl hy (by omega) hsl
  have hpl := pv.len
  have hp7 : p.length ≤ 1000000 := by omega
  have hwid : ∀ c ∈ y.carts, widT c ≤ 12 := fun c hc => by
   have k := md.ct c hc
   have := k.l0
   have := k.h1
   unfold widT
   omega
  ((repeat refine Ws ?_);refine W_regionE T_ok ?_; intro Kn hKn)
  ((simp (maxSteps := 1000000) only [VL,VM,↓VG,reduceIte,reduceCtorEq,zA,zB,zC,zD,zE,zF,zG,zH,zI,zJ]); rw [hKn]; clear hKn; clear Kn; simp only [thenQ.eq_1, thenQ.eq_2, blockQ.eq_1, blockQ.eq_2, reduceIte, reduceCtorEq, Nat.reduceEqDiff])
  ((repeat refine Ws ?_);refine Wf (by first|rfl|simp only [EV,zF,reduceIte]) ?_)
  (((repeat refine Ws ?_);refine W_skip ?_); simp only [thenQ.eq_1, thenQ.eq_2, blockQ.eq_1, blockQ.eq_2, reduceIte, reduceCtorEq, Nat.reduceEqDiff])
  ((repeat refine Ws ?_);refine W_regionE T_ok ?_; intro Kn hKn)
  ((simp (maxSteps := 1000000) only [VL,VM,↓VG,reduceIte,reduceCtorEq,zA,zB,zC,zD,zE,zF,zG,zH,zI,zJ]); rw [hKn]; clear hKn; clear Kn; simp only [thenQ.eq_1, thenQ.eq_2, blockQ.eq_1, blockQ.eq_2, reduceIte, reduceCtorEq, Nat.reduceEqDiff])
  (repeat refine Ws ?_)
  refine W_know1 (t := 7) rfl ?_
  ((repeat refine Ws ?_);refine W_regionE T_ok ?_; intro Kn hKn)
  ((simp (maxSteps := 1000000) only [VL,VM,↓VG,reduceIte,reduceCtorEq,zA,zB,zC,zD,zE,zF,zG,zH,zI,zJ]); rw [hKn]; clear hKn; clear Kn; simp only [thenQ.eq_1, thenQ.eq_2, blockQ.eq_1, blockQ.eq_2, reduceIte, reduceCtorEq, Nat.reduceEqDiff])
  ((repeat refine Ws ?_);refine W_block ?_; (repeat refine Ws ?_)); refine W_loopS (fun s : E3 => [(4, .ptr (M.H.length + 1) 0), (5, stsV p), (7, tabV (allT y s.j)), (8, vi s.j)]) (fun s => ⟨M.H ++ .obj [uv u3] :: .obj (yardC y) :: s.junk, M.lg⟩) (fun s => y.carts.length - s.j) (fun s => s.j ≤ y.carts.length) ⟨0, []⟩ (Nat.zero_le _) ⟨rfl, rfl, rfl, rfl, trivial⟩ rfl ?_
  rintro ⟨i, junk⟩ hi
  simp only at hi
  have k1 : -9223372036854775808 ≤ (i : Int) + 1 ∧ (i : Int) + 1 < 9223372036854775808 := by omega
  ((repeat refine Ws ?_);refine W_regionE T_ok ?_; intro Kn hKn)
  rcases Nat.lt_or_ge i y.carts.length with hlt | hge
  rotate_left
  ·have k2 : ((i : Int) < (y.carts.length : Int)) = False := eq_false (by omega)
   obtain rfl : i = y.carts.length := by omega
   ((simp (maxSteps := 1000000) only [VL,VM,↓VG,reduceIte,reduceCtorEq,zA,zB,zC,zD,zE,zF,zG,zH,zI,zJ, k2]); rw [hKn]; clear hKn; clear Kn; simp only [thenQ.eq_1, thenQ.eq_2, blockQ.eq_1, blockQ.eq_2, reduceIte, reduceCtorEq, Nat.reduceEqDiff])
   ((repeat refine Ws ?_);refine Wf (by first|rfl|simp only [EV,zF,reduceIte]) ?_)
   (((repeat refine Ws ?_);refine W_exit ?_); simp only [thenQ.eq_1, thenQ.eq_2, blockQ.eq_1, blockQ.eq_2, reduceIte, reduceCtorEq, Nat.reduceEqDiff])
   obtain ⟨he, hso⟩ := ends_all hy pv
   have hWb := fun x hx => allT_bd (y := y) y.carts.length x hx
   have hWl := allT_len hwid y.carts.length (Nat.le_refl _)
   have hpow : 12 ^ y.carts.length ≤ 12 ^ 3 := Nat.pow_le_pow_right (by omega) (by omega)
   generalize allT y y.carts.length = W at he hso hWb hWl ⊢
   ((repeat refine Ws ?_);refine W_regionE T_ok ?_; intro Kn hKn)
   ((simp (maxSteps := 1000000) only [VL,VM,↓VG,reduceIte,reduceCtorEq,zA,zB,zC,zD,zE,zF,zG,zH,zI,zJ]); rw [hKn]; clear hKn; clear Kn; simp only [thenQ.eq_1, thenQ.eq_2, blockQ.eq_1, blockQ.eq_2, reduceIte, reduceCtorEq, Nat.reduceEqDiff])
   ((repeat refine Ws ?_);refine W_regionE T_ok ?_; intro Kn hKn)
   ((simp (maxSteps := 1000000) only [VL,VM,↓VG,reduceIte,reduceCtorEq,zA,zB,zC,zD,zE,zF,zG,zH,zI,zJ]); rw [hKn]; clear hKn; clear Kn; simp only [thenQ.eq_1, thenQ.eq_2, blockQ.eq_1, blockQ.eq_2, reduceIte, reduceCtorEq, Nat.reduceEqDiff])
   ((repeat refine Ws ?_);refine W_block ?_; (repeat refine Ws ?_)); refine W_loopS (fun s : Nat => [(4, .ptr (M.H.length + 1) 0), (5, stsV p), (7, tabV W), (12, vb ((W.take s).all (heldB y p))), (13, vb ((W.take s).any (heldB y p))), (14, vi s)]) (fun s => ⟨M.H ++ .obj [uv u3] :: .obj (yardC y) :: junk, M.lg⟩) (fun s => W.length - s) (fun s => s ≤ W.length) 0 (Nat.zero_le _) ⟨rfl, rfl, rfl, rfl, rfl, rfl, trivial⟩ rfl ?_
   intro k hk
   have z1 : -9223372036854775808 ≤ (k : Int) + 1 ∧ (k : Int) + 1 < 9223372036854775808 := by omega
   ((repeat refine Ws ?_);refine W_regionE T_ok ?_; intro Kn hKn)
   rcases Nat.lt_or_ge k W.length with hlk | hgk
   ·have z2 : ((k : Int) < (W.length : Int)) = True := eq_true (by omega)
    have hx : W[k]? = some W[k] := List.getElem?_eq_getElem hlk
    obtain ⟨hb1, hb2⟩ := hWb _ (List.getElem_mem hlk)
    have ha1 : (W.take (k + 1)).all (heldB y p) = ((W.take k).all (heldB y p) && heldB y p W[k]) := by
     rw [List.take_add_one, hx, List.all_append]; simp
    have ha2 : (W.take (k + 1)).any (heldB y p) = ((W.take k).any (heldB y p) || heldB y p W[k]) := by
     rw [List.take_add_one, hx, List.any_append]; simp
    generalize W[k] = a at hx hb1 hb2 ha1 ha2
    have hx' := map_at (f := rowP) hx
    have hbd : ∀ x ∈ a, -1000000 ≤ x ∧ x ≤ 1000000 := fun x hxm => by
     obtain ⟨j, hj, rfl⟩ := List.getElem_of_mem hxm
     have := hb2 j (by omega)
     have hcm := hy.ct _ (ctAt_mem (y := y) (i := j) (by omega))
     have q1 := hcm.l0
     have q2 := hcm.h1
     have e : tkAt a j = a[j] := by simp [tkAt, hj]
     rw [e] at this
     omega
    ((simp (maxSteps := 1000000) only [VL,VM,↓VG,reduceIte,reduceCtorEq,zA,zB,zC,zD,zE,zF,zG,zH,zI,zJ, z2]); rw [hKn]; clear hKn; clear Kn; simp only [thenQ.eq_1, thenQ.eq_2, blockQ.eq_1, blockQ.eq_2, reduceIte, reduceCtorEq, Nat.reduceEqDiff])
    ((repeat refine Ws ?_);refine Wt (by first|rfl|simp only [EV,zF,reduceIte]) ?_)
    (((repeat refine Ws ?_);refine W_skip ?_); simp only [thenQ.eq_1, thenQ.eq_2, blockQ.eq_1, blockQ.eq_2, reduceIte, reduceCtorEq, Nat.reduceEqDiff])
    ((repeat refine Ws ?_);refine W_block ?_)
    ·skip
     (repeat refine Ws ?_)
     refine W_drawE T_ok [] (by kernel_rfl) (by kernel_rfl) ?_
     intro Kn hKn
     generalize hi : mkPlan _ = infs
     cbv at hi
     subst hi
     simp (maxSteps := 1000000) only [VL,VM,↓VG,reduceIte,reduceCtorEq,zA,zB,zC,zD,zE,zF,zG,zH,zI,zJ, hx']
     apply call_d (f := 38) (fn := Try.f38) (by kernel_rfl) (by rfl)
     ·exact held_l y p _ hy pv a hb1 hbd
     generalize heldB y p a = h at ha1 ha2 ⊢
     generalize (W.take k).all (heldB y p) = e1 at ha1 ⊢
     generalize (W.take k).any (heldB y p) = e2 at ha2 ⊢
     ((simp (maxSteps := 1000000) only [VL,VM,↓VG,reduceIte,reduceCtorEq,zA,zB,zC,zD,zE,zF,zG,zH,zI,zJ, hx']); rw [hKn]; clear hKn; clear Kn; simp only [thenQ.eq_1, thenQ.eq_2, blockQ.eq_1, blockQ.eq_2, reduceIte, reduceCtorEq, Nat.reduceEqDiff])
     ((repeat refine Ws ?_);refine W_regionE T_ok ?_; intro Kn hKn)
     cases e1 <;> cases e2
     all_goals
      ((simp (maxSteps := 1000000) only [VL,VM,↓VG,reduceIte,reduceCtorEq,zA,zB,zC,zD,zE,zF,zG,zH,zI,zJ]); rw [hKn]; clear hKn; clear Kn; simp only [thenQ.eq_1, thenQ.eq_2, blockQ.eq_1, blockQ.eq_2, reduceIte, reduceCtorEq, Nat.reduceEqDiff])
      ((repeat refine Ws ?_);refine W_regionE T_ok ?_; intro Kn hKn)
      ((simp (maxSteps := 1000000) only [VL,VM,↓VG,reduceIte,reduceCtorEq,zA,zB,zC,zD,zE,zF,zG,zH,zI,zJ, z1]); rw [hKn]; clear hKn; clear Kn; simp only [thenQ.eq_1, thenQ.eq_2, blockQ.eq_1, blockQ.eq_2, reduceIte, reduceCtorEq, Nat.reduceEqDiff])
      exact LoopK.mk (k + 1) (by omega) (by omega) ⟨rfl, rfl, rfl, by simp only [get_cons, Nat.reduceEqDiff, if_true, if_false, reduceIte, ha1]; cases h <;> rfl, by simp only [get_cons, Nat.reduceEqDiff, if_true, if_false, reduceIte, ha2]; cases h <;> rfl, rfl, trivial⟩ rfl
   have z2 : ((k : Int) < (W.length : Int)) = False := eq_false (by omega)
   obtain rfl : k = W.length := by omega
   rw [List.take_length, he, hso]
   ((simp (maxSteps := 1000000) only [VL,VM,↓VG,reduceIte,reduceCtorEq,zA,zB,zC,zD,zE,zF,zG,zH,zI,zJ, z2]); rw [hKn]; clear hKn; clear Kn; simp only [thenQ.eq_1, thenQ.eq_2, blockQ.eq_1, blockQ.eq_2, reduceIte, reduceCtorEq, Nat.reduceEqDiff])
   ((repeat refine Ws ?_);refine Wf (by first|rfl|simp only [EV,zF,reduceIte]) ?_)
   (((repeat refine Ws ?_);refine W_exit ?_); simp only [thenQ.eq_1, thenQ.eq_2, blockQ.eq_1, blockQ.eq_2, reduceIte, reduceCtorEq, Nat.reduceEqDiff])
   ((repeat refine Ws ?_);refine W_regionE T_ok ?_; intro Kn hKn)
   simp (maxSteps := 1000000) only [VL,VM,↓VG,reduceIte,reduceCtorEq,zA,zB,zC,zD,zE,zF,zG,zH,zI,zJ]
   apply call_eq (f := 39) (fn := Try.f39) (by kernel_rfl) (by rfl)
   ·exact pholds_v y p _ lens.1 lens.2.1 lens.2.2 hp7
   have hpe : plErr y p = 0 := plErr_ok.2 ⟨hy, pv⟩
   have hsh := short_long hy pv
   have hv : holdsV y p = (if heldB y p (longest y) then 1 else if heldB y p (shortest y) then 3 else 2, 0) := by
    unfold holdsV
    rw [if_pos hpe]
    split
    ·rfl
    ·split <;> rfl
   rw [hv]
   ((simp (maxSteps := 1000000) only [VL,VM,↓VG,reduceIte,reduceCtorEq,zA,zB,zC,zD,zE,zF,zG,zH,zI,zJ]); rw [hKn]; clear hKn; clear Kn; simp only [thenQ.eq_1, thenQ.eq_2, blockQ.eq_1, blockQ.eq_2, reduceIte, reduceCtorEq, Nat.reduceEqDiff])
   ((repeat refine Ws ?_);refine W_regionE T_ok ?_; intro Kn hKn)
   have f12 : ((1 : Int) = 2) = False := eq_false (by decide)
   have f31 : ((3 : Int) = 1) = False := eq_false (by decide)
   have f32 : ((3 : Int) = 2) = False := eq_false (by decide)
   have f21 : ((2 : Int) = 1) = False := eq_false (by decide)
   cases c1 : heldB y p (longest y) with
   | true =>
    rw [hsh c1]
    simp (maxSteps := 1000000) only [VL,VM,↓VG,reduceIte,reduceCtorEq,zA,zB,zC,zD,zE,zF,zG,zH,zI,zJ, v_eqBool, beq_self_eq_true, Bool.not_true, f12, f31, f32, f21]
    apply call_eq (f := 16) (fn := Try.f16) (by kernel_rfl) (by rfl)
    ·exact awake_v _
    ((simp (maxSteps := 1000000) only [VL,VM,↓VG,reduceIte,reduceCtorEq,zA,zB,zC,zD,zE,zF,zG,zH,zI,zJ]); rw [hKn]; clear hKn; clear Kn; simp only [thenQ.eq_1, thenQ.eq_2, blockQ.eq_1, blockQ.eq_2, reduceIte, reduceCtorEq, Nat.reduceEqDiff])
    (repeat refine Ws ?_)
    refine W_ret ?_
    try simp only [thenQ, blockQ]
    refine own_ret1 rfl ?_ (by rfl)
    simp only [get_cons, frz, vtup, Nat.reduceEqDiff, if_true, if_false, reduceIte]
   | false =>
    cases c2 : heldB y p (shortest y) with
    | true =>
     simp (maxSteps := 1000000) only [VL,VM,↓VG,reduceIte,reduceCtorEq,zA,zB,zC,zD,zE,zF,zG,zH,zI,zJ, v_eqBool, beq_self_eq_true, Bool.not_true, f12, f31, f32, f21]
     apply call_eq (f := 16) (fn := Try.f16) (by kernel_rfl) (by rfl)
     ·exact awake_v _
     ((simp (maxSteps := 1000000) only [VL,VM,↓VG,reduceIte,reduceCtorEq,zA,zB,zC,zD,zE,zF,zG,zH,zI,zJ]); rw [hKn]; clear hKn; clear Kn; simp only [thenQ.eq_1, thenQ.eq_2, blockQ.eq_1, blockQ.eq_2, reduceIte, reduceCtorEq, Nat.reduceEqDiff])
     (repeat refine Ws ?_)
     refine W_ret ?_
     try simp only [thenQ, blockQ]
     refine own_ret1 rfl ?_ (by rfl)
     simp only [get_cons, frz, vtup, Nat.reduceEqDiff, if_true, if_false, reduceIte]
    | false =>
     simp (maxSteps := 1000000) only [VL,VM,↓VG,reduceIte,reduceCtorEq,zA,zB,zC,zD,zE,zF,zG,zH,zI,zJ, v_eqBool, beq_self_eq_true, Bool.not_true, f12, f31, f32, f21]
     apply call_eq (f := 16) (fn := Try.f16) (by kernel_rfl) (by rfl)
     ·exact awake_v _
     ((simp (maxSteps := 1000000) only [VL,VM,↓VG,reduceIte,reduceCtorEq,zA,zB,zC,zD,zE,zF,zG,zH,zI,zJ]); rw [hKn]; clear hKn; clear Kn; simp only [thenQ.eq_1, thenQ.eq_2, blockQ.eq_1, blockQ.eq_2, reduceIte, reduceCtorEq, Nat.reduceEqDiff])
     (repeat refine Ws ?_)
     refine W_ret ?_
     try simp only [thenQ, blockQ]
     refine own_ret1 rfl ?_ (by rfl)
     simp only [get_cons, frz, vtup, Nat.reduceEqDiff, if_true, if_false, reduceIte]
  have k2 : ((i : Int) < (y.carts.length : Int)) = True := eq_true (by omega)
  have hcx := map_at (f := ctP) (ctAt_get hlt)
  have hcm := md.ct _ (ctAt_mem hlt)
  have hwd := hwid _ (ctAt_mem hlt)
  have hal := allT_len hwid i hi
  have hnext : allT y (i + 1) = (allT y i).flatMap (extT (ctAt y i)) := rfl
  have hpow : 12 ^ i ≤ 12 ^ 3 := Nat.pow_le_pow_right (by omega) (by omega)
  generalize ctAt y i = c at hcx hcm hwd hnext
  obtain ⟨W, hW⟩ : ∃ W, W = allT y i := ⟨_, rfl⟩
  rw [← hW] at hal hnext ⊢
  have hw0 := hcm.l0
  have hw1 := hcm.lh
  have hw2 := hcm.h1
  have hwd2 : (widT c : Int) = c.takes.hi + 1 - c.takes.lo := by unfold widT; omega
  obtain ⟨A, hA⟩ : ∃ A, A = M.H ++ VObj.obj [uv u3] :: VObj.obj (yardC y) :: junk := ⟨_, rfl⟩
  have hA1 : A[M.H.length + 1]? = some (VObj.obj (yardC y)) := by rw [hA, hget]; rfl
  have hA2 : ∀ L, (A ++ L)[M.H.length + 1]? = some (VObj.obj (yardC y)) := fun L => by rw [List.getElem?_append_left (List.getElem?_eq_some_iff.1 hA1).1]; exact hA1
  rw [← hA]
  ((simp (maxSteps := 1000000) only [VL,VM,↓VG,reduceIte,reduceCtorEq,zA,zB,zC,zD,zE,zF,zG,zH,zI,zJ, hA1, k2]); rw [hKn]; clear hKn; clear Kn; simp only [thenQ.eq_1, thenQ.eq_2, blockQ.eq_1, blockQ.eq_2, reduceIte, reduceCtorEq, Nat.reduceEqDiff])
  ((repeat refine Ws ?_);refine Wt (by first|rfl|simp only [EV,zF,reduceIte]) ?_)
  (((repeat refine Ws ?_);refine W_skip ?_); simp only [thenQ.eq_1, thenQ.eq_2, blockQ.eq_1, blockQ.eq_2, reduceIte, reduceCtorEq, Nat.reduceEqDiff])
  ((repeat refine Ws ?_);refine W_block ?_)
  ((repeat refine Ws ?_);refine Wr ?_)
  simp (maxSteps := 1000000) only [VL,VM,↓VG,reduceIte,reduceCtorEq,zA,zB,zC,zD,zE,zF,zG,zH,zI,zJ]
  (repeat refine Ws ?_)
  refine W_tok (t := 9) (k := 1) rfl ?_
  simp (maxSteps := 1000000) only [VL,VM,↓VG,reduceIte,reduceCtorEq,zA,zB,zC,zD,zE,zF,zG,zH,zI,zJ]
  ((repeat refine Ws ?_);refine Wr ?_)
  simp (maxSteps := 1000000) only [VL,VM,↓VG,reduceIte,reduceCtorEq,zA,zB,zC,zD,zE,zF,zG,zH,zI,zJ]
  ((repeat refine Ws ?_);refine W_block ?_; (repeat refine Ws ?_)); refine W_loopS (fun s : E3 => [(4, .ptr (M.H.length + 1) 0), (5, stsV p), (7, tabV W), (8, vi i), (9, .so A.length 1 (((W.take s.j).flatMap (extT c)).map rowP)), (10, vi s.j)]) (fun s => ⟨A ++ .clm ((W.take s.j).flatMap (extT c)).length 1 :: s.junk, M.lg⟩) (fun s => W.length - s.j) (fun s => s.j ≤ W.length) ⟨0, []⟩ (Nat.zero_le _) ⟨rfl, rfl, rfl, rfl, rfl, rfl, trivial⟩ rfl ?_
  rintro ⟨k, jk⟩ hk
  simp only at hk
  have z1 : -9223372036854775808 ≤ (k : Int) + 1 ∧ (k : Int) + 1 < 9223372036854775808 := by omega
  ((repeat refine Ws ?_);refine W_regionE T_ok ?_; intro Kn hKn)
  rcases Nat.lt_or_ge k W.length with hlk | hgk
  rotate_left
  ·have z2 : ((k : Int) < (W.length : Int)) = False := eq_false (by omega)
   obtain rfl : k = W.length := by omega
   ((simp (maxSteps := 1000000) only [VL,VM,↓VG,reduceIte,reduceCtorEq,zA,zB,zC,zD,zE,zF,zG,zH,zI,zJ, z2]); rw [hKn]; clear hKn; clear Kn; simp only [thenQ.eq_1, thenQ.eq_2, blockQ.eq_1, blockQ.eq_2, reduceIte, reduceCtorEq, Nat.reduceEqDiff])
   ((repeat refine Ws ?_);refine Wf (by first|rfl|simp only [EV,zF,reduceIte]) ?_)
   (((repeat refine Ws ?_);refine W_exit ?_); simp only [thenQ.eq_1, thenQ.eq_2, blockQ.eq_1, blockQ.eq_2, reduceIte, reduceCtorEq, Nat.reduceEqDiff])
   rw [List.take_length, ← hnext]
   ((repeat refine Ws ?_);refine Wr ?_)
   simp (maxSteps := 1000000) only [VL,VM,↓VG,reduceIte,reduceCtorEq,zA,zB,zC,zD,zE,zF,zG,zH,zI,zJ]
   (repeat refine Ws ?_)
   refine W_know (t := 7) (x := .so A.length 1 ((allT y (i + 1)).map rowP)) (y := tabV (allT y (i + 1))) rfl (fun r hr => by simp [refs] at hr) (fun _ _ _ h => so_p h) ?_
   ((repeat refine Ws ?_);refine Wr ?_)
   simp (maxSteps := 1000000) only [VL,VM,↓VG,reduceIte,reduceCtorEq,zA,zB,zC,zD,zE,zF,zG,zH,zI,zJ, k1]
   refine LoopK.mk ⟨i + 1, junk ++ .clm (allT y (i + 1)).length 1 :: jk⟩ (by simp only; omega) (by simp only; omega) ⟨rfl, rfl, rfl, rfl, trivial⟩ (by rw [hA]; simp)
  have z2 : ((k : Int) < (W.length : Int)) = True := eq_true (by omega)
  have hx : W[k]? = some W[k] := List.getElem?_eq_getElem hlk
  have hal2 : W[k].length = i := (allT_bd i _ (by rw [← hW]; exact List.getElem_mem hlk)).1
  have hsucc : (W.take (k + 1)).flatMap (extT c) = (W.take k).flatMap (extT c) ++ extT c W[k] := by
   rw [List.take_add_one, hx, List.flatMap_append]; simp
  have hRl : ((W.take k).flatMap (extT c)).length = k * widT c := by rw [flatT_len, List.length_take, Nat.min_eq_left hk]
  have hRb : k * widT c ≤ 1728 * 12 := Nat.mul_le_mul (by omega) hwd
  generalize W[k] = a at hx hal2 hsucc
  have hx' := map_at (f := rowP) hx
  generalize (W.take k).flatMap (extT c) = R at hsucc hRl ⊢
  have ha7 : a.length ≤ 1000000 := by omega
  have hE : extT c a = (List.range (widT c)).map fun q : Nat => a ++ [c.takes.lo + (q : Int)] := rfl
  ((simp (maxSteps := 1000000) only [VL,VM,↓VG,reduceIte,reduceCtorEq,zA,zB,zC,zD,zE,zF,zG,zH,zI,zJ, z2]); rw [hKn]; clear hKn; clear Kn; simp only [thenQ.eq_1, thenQ.eq_2, blockQ.eq_1, blockQ.eq_2, reduceIte, reduceCtorEq, Nat.reduceEqDiff])
  ((repeat refine Ws ?_);refine Wt (by first|rfl|simp only [EV,zF,reduceIte]) ?_)
  (((repeat refine Ws ?_);refine W_skip ?_); simp only [thenQ.eq_1, thenQ.eq_2, blockQ.eq_1, blockQ.eq_2, reduceIte, reduceCtorEq, Nat.reduceEqDiff])
  ((repeat refine Ws ?_);refine W_block ?_)
  ((repeat refine Ws ?_);refine Wr ?_)
  simp (maxSteps := 1000000) only [VL,VM,↓VG,reduceIte,reduceCtorEq,zA,zB,zC,zD,zE,zF,zG,zH,zI,zJ, hA2, hcx]
  ((repeat refine Ws ?_);refine W_block ?_; (repeat refine Ws ?_)); refine W_loopS (fun s : E3 => [(4, .ptr (M.H.length + 1) 0), (5, stsV p), (7, tabV W), (8, vi i), (9, .so A.length 1 ((R ++ (List.range s.j).map fun q : Nat => a ++ [c.takes.lo + (q : Int)]).map rowP)), (10, vi k), (11, vi (c.takes.lo + (s.j : Int)))]) (fun s => ⟨A ++ .clm (R.length + s.j) 1 :: s.junk, M.lg⟩) (fun s => widT c - s.j) (fun s => s.j ≤ widT c) ⟨0, jk⟩ (Nat.zero_le _) ⟨rfl, rfl, rfl, rfl, ?_, rfl, ?_, trivial⟩ rfl ?_
  ·simp [get_cons]
  ·simp [get_cons]
  rintro ⟨j, jl⟩ hj
  simp only at hj
  have w1 : -9223372036854775808 ≤ c.takes.lo + (j : Int) + 1 ∧ c.takes.lo + (j : Int) + 1 < 9223372036854775808 := by omega
  ((repeat refine Ws ?_);refine W_regionE T_ok ?_; intro Kn hKn)
  rcases Nat.lt_or_ge j (widT c) with hlj | hgj
  rotate_left
  ·have w2 : (c.takes.lo + (j : Int) ≤ c.takes.hi) = False := eq_false (by omega)
   obtain rfl : j = widT c := by omega
   ((simp (maxSteps := 1000000) only [VL,VM,↓VG,reduceIte,reduceCtorEq,zA,zB,zC,zD,zE,zF,zG,zH,zI,zJ, hA2, hcx, w2]); rw [hKn]; clear hKn; clear Kn; simp only [thenQ.eq_1, thenQ.eq_2, blockQ.eq_1, blockQ.eq_2, reduceIte, reduceCtorEq, Nat.reduceEqDiff])
   ((repeat refine Ws ?_);refine Wf (by first|rfl|simp only [EV,zF,reduceIte]) ?_)
   (((repeat refine Ws ?_);refine W_exit ?_); simp only [thenQ.eq_1, thenQ.eq_2, blockQ.eq_1, blockQ.eq_2, reduceIte, reduceCtorEq, Nat.reduceEqDiff])
   ((repeat refine Ws ?_);refine W_regionE T_ok ?_; intro Kn hKn)
   ((simp (maxSteps := 1000000) only [VL,VM,↓VG,reduceIte,reduceCtorEq,zA,zB,zC,zD,zE,zF,zG,zH,zI,zJ, z1]); rw [hKn]; clear hKn; clear Kn; simp only [thenQ.eq_1, thenQ.eq_2, blockQ.eq_1, blockQ.eq_2, reduceIte, reduceCtorEq, Nat.reduceEqDiff])
   refine LoopK.mk ⟨k + 1, jl⟩ (by simp only; omega) (by simp only; omega) ⟨rfl, rfl, rfl, rfl, ?_, rfl, trivial⟩ ?_
   ·simp only [get_cons, Nat.reduceEqDiff, if_true, if_false, reduceIte, hsucc, hE]
   ·simp only [hsucc, List.length_append, extT_len]
  have w2 : (c.takes.lo + (j : Int) ≤ c.takes.hi) = True := eq_true (by omega)
  have q1 : ((a.length + 1) * 8 ≤ 140737488355328) = True := eq_true (by omega)
  obtain ⟨R2, hR2⟩ : ∃ R2, R2 = R ++ (List.range j).map fun q : Nat => a ++ [c.takes.lo + (q : Int)] := ⟨_, rfl⟩
  have hR2l : R2.length = R.length + j := by rw [hR2]; simp
  have hR3 : R ++ (List.range (j + 1)).map (fun q : Nat => a ++ [c.takes.lo + (q : Int)]) = R2 ++ [a ++ [c.takes.lo + (j : Int)]] := by
   rw [hR2, List.range_succ]; simp
  have q2 : ((R.length + (j + 1)) * 24 ≤ 140737488355328) = True := eq_true (by omega)
  rw [← hR2]
  ((simp (maxSteps := 1000000) only [VL,VM,↓VG,reduceIte,reduceCtorEq,zA,zB,zC,zD,zE,zF,zG,zH,zI,zJ, hA2, hcx, w2]); rw [hKn]; clear hKn; clear Kn; simp only [thenQ.eq_1, thenQ.eq_2, blockQ.eq_1, blockQ.eq_2, reduceIte, reduceCtorEq, Nat.reduceEqDiff])
  ((repeat refine Ws ?_);refine Wt (by first|rfl|simp only [EV,zF,reduceIte]) ?_)
  (((repeat refine Ws ?_);refine W_skip ?_); simp only [thenQ.eq_1, thenQ.eq_2, blockQ.eq_1, blockQ.eq_2, reduceIte, reduceCtorEq, Nat.reduceEqDiff])
  ((repeat refine Ws ?_);refine W_block ?_)
  ((repeat refine Ws ?_);refine Wr ?_)
  simp (maxSteps := 1000000) only [VL,VM,↓VG,reduceIte,reduceCtorEq,zA,zB,zC,zD,zE,zF,zG,zH,zI,zJ, hx']
  apply call_eq (f := 37) (fn := Try.f37) (by kernel_rfl) (by rfl)
  ·exact copyInts_k a _ ha7
  simp (maxSteps := 1000000) only [VL,VM,↓VG,reduceIte,reduceCtorEq,zA,zB,zC,zD,zE,zF,zG,zH,zI,zJ, q1, q2, hR2l]
  ((repeat refine Ws ?_);refine Wr ?_)
  simp (maxSteps := 1000000) only [VL,VM,↓VG,reduceIte,reduceCtorEq,zA,zB,zC,zD,zE,zF,zG,zH,zI,zJ, w1]
  refine LoopK.mk ⟨j + 1, jl ++ [.clm (a.length + 1) 1]⟩ (by simp only; omega) (by simp only; omega) ⟨rfl, rfl, rfl, rfl, ?_, rfl, ?_, trivial⟩ rfl
  ·simp only [get_cons, Nat.reduceEqDiff, if_true, if_false, reduceIte, hR3]
   simp
  ·have e9 : c.takes.lo + (j : Int) + 1 = c.takes.lo + ((j + 1 : Nat) : Int) := by omega
   show vi (c.takes.lo + (j : Int) + 1) = vi (c.takes.lo + ((j + 1 : Nat) : Int))
   rw [e9]
end Go.Proofs.Ythcicaelnchfdaa.Vm
