/- A part of the proofs about the chapter of the vaults; it states no condition of its own. -/
import Derived.Test.YtominlgikchnmaaGreatDoorB23
set_option linter.unusedVariables false
set_option linter.unusedSimpArgs false
open Int renaming reduceLE → zA, reduceLT → zB, reduceToNat → zC, reduceNeg → zD
open Nat renaming reduceLT → zE, reduceEqDiff → zF, reduceAdd → zG, reduceSub → zH, reduceMul → zI, reduceLeDiff → zJ
/- Halls that are copied, compared, and looked at, on values. (Vm) -/
namespace Go.Proofs.YtominlgikchnmaaGreatDoor.Vm
open Go Go.Proofs
def vastB (h : Ha) : Bool := h.kinds.any (fun k => decide (20 < k.away.length)) || decide (40 < h.water.length) || decide (40 < h.shut.length) || decide (40 < h.bears.length) || decide (20 < h.kinds.length)
set_option maxHeartbeats 1000000 in
theorem vast_v (h : Ha) (M : Mem) (hl : h.kinds.length ≤ 9223372036854775807) : VC Tryz.prog 5 [hallV h] M (fun r M' => M' = M ∧ r = vb (vastB h)) := by
 refine VC_own' T_ok (f := 5) (fn := Tryz.f5) (by kernel_rfl) rfl Tryz.ntmps5 (by rfl) (by rfl) ?_
 ((repeat refine Ws ?_);refine Wr ?_)
 simp (maxSteps := 1000000) only [VL,VM,↓VG,reduceIte,reduceCtorEq,zA,zB,zC,zD,zE,zF,zG,zH,zI,zJ]
 ((repeat refine Ws ?_);refine Wr ?_)
 simp (maxSteps := 1000000) only [VL,VM,↓VG,reduceIte,reduceCtorEq,zA,zB,zC,zD,zE,zF,zG,zH,zI,zJ]
 ((repeat refine Ws ?_);refine W_block ?_; (repeat refine Ws ?_)); refine W_loopS (fun i : Nat => [(1, .ptr M.H.length 0), (3, vi i)]) (fun _ => ⟨M.H ++ [VObj.obj (hallC h)], M.lg⟩) (fun i => h.kinds.length - i) (fun i => i ≤ h.kinds.length ∧ (h.kinds.take i).any (fun k => decide (20 < k.away.length)) = false) 0 ⟨Nat.zero_le _, rfl⟩ ⟨rfl, rfl, trivial⟩ rfl ?_
 rintro i ⟨hi, hn⟩
 ((repeat refine Ws ?_);refine Wr ?_)
 rcases Nat.lt_or_ge i h.kinds.length with hlt | hge
 ·have k1 : -9223372036854775808 ≤ (i : Int) + 1 ∧ (i : Int) + 1 < 9223372036854775808 := by omega
  have k2 : ((i : Int) < (h.kinds.length : Int)) = True := eq_true (by omega)
  have hx : h.kinds[i]? = some h.kinds[i] := List.getElem?_eq_getElem hlt
  have hx' := map_at (f := kiP) hx
  have hmem := List.getElem_mem hlt
  generalize h.kinds[i] = k at hx hx' hmem
  simp (maxSteps := 1000000) only [VL,VM,↓VG,reduceIte,reduceCtorEq,zA,zB,zC,zD,zE,zF,zG,zH,zI,zJ, k2]
  ((repeat refine Ws ?_);refine Wt (by first|rfl|simp only [EV,zF,reduceIte]) ?_)
  ((repeat refine Ws ?_);refine W_skip ?_)
  simp (maxSteps := 1000000) only [VL,VM,↓VG,reduceIte,reduceCtorEq,zA,zB,zC,zD,zE,zF,zG,zH,zI,zJ]
  ((repeat refine Ws ?_);refine W_block ?_)
  by_cases hk : 20 < k.away.length
  ·have e1 : ((20 : Int) < (k.away.length : Int)) = True := eq_true (by omega)
   ((repeat refine Ws ?_);refine Wr ?_)
   simp (maxSteps := 1000000) only [VL,VM,↓VG,reduceIte,reduceCtorEq,zA,zB,zC,zD,zE,zF,zG,zH,zI,zJ, hx', e1]
   ((repeat refine Ws ?_);refine Wt (by first|rfl|simp only [EV,zF,reduceIte]) ?_)
   ((repeat refine Ws ?_);refine Wr ?_)
   simp (maxSteps := 1000000) only [VL,VM,↓VG,reduceIte,reduceCtorEq,zA,zB,zC,zD,zE,zF,zG,zH,zI,zJ]
   (repeat refine Ws ?_)
   refine W_ret ?_
   try simp only [thenQ, blockQ]
   refine own_ret1 rfl ?_ (by rfl)
   simp only [get_cons, frz, vtup, Nat.reduceEqDiff, if_true, if_false, reduceIte]
   have : h.kinds.any (fun k => decide (20 < k.away.length)) = true := List.any_eq_true.2 ⟨k, hmem, by simp [hk]⟩
   rw [vastB, this]; rfl
  ·have e1 : ((20 : Int) < (k.away.length : Int)) = False := eq_false (by omega)
   ((repeat refine Ws ?_);refine Wr ?_)
   simp (maxSteps := 1000000) only [VL,VM,↓VG,reduceIte,reduceCtorEq,zA,zB,zC,zD,zE,zF,zG,zH,zI,zJ, hx', e1]
   ((repeat refine Ws ?_);refine Wf (by first|rfl|simp only [EV,zF,reduceIte]) ?_)
   ((repeat refine Ws ?_);refine W_skip ?_)
   simp (maxSteps := 1000000) only [VL,VM,↓VG,reduceIte,reduceCtorEq,zA,zB,zC,zD,zE,zF,zG,zH,zI,zJ]
   ((repeat refine Ws ?_);refine Wr ?_)
   simp (maxSteps := 1000000) only [VL,VM,↓VG,reduceIte,reduceCtorEq,zA,zB,zC,zD,zE,zF,zG,zH,zI,zJ, k1]
   refine LoopK.mk (i + 1) (by omega) ⟨by omega, ?_⟩ ⟨rfl, rfl, trivial⟩ rfl
   rw [List.take_add_one, hx, List.any_append, hn]
   simp [hk]
 have k2 : ((i : Int) < (h.kinds.length : Int)) = False := eq_false (by omega)
 rw [List.take_of_length_le (by omega)] at hn
 simp (maxSteps := 1000000) only [VL,VM,↓VG,reduceIte,reduceCtorEq,zA,zB,zC,zD,zE,zF,zG,zH,zI,zJ, k2]
 ((repeat refine Ws ?_);refine Wf (by first|rfl|simp only [EV,zF,reduceIte]) ?_)
 ((repeat refine Ws ?_);refine W_exit ?_)
 simp (maxSteps := 1000000) only [VL,VM,↓VG,reduceIte,reduceCtorEq,zA,zB,zC,zD,zE,zF,zG,zH,zI,zJ]
 have hvb : vastB h = (decide (40 < h.water.length) || decide (40 < h.shut.length) || decide (40 < h.bears.length) || decide (20 < h.kinds.length)) := by
  rw [vastB, hn, Bool.false_or]
 have g1 : ((40 : Int) < (h.water.length : Int)) = (40 < h.water.length) := by rw [eq_iff_iff]; omega
 have g2 : ((40 : Int) < (h.shut.length : Int)) = (40 < h.shut.length) := by rw [eq_iff_iff]; omega
 have g3 : ((40 : Int) < (h.bears.length : Int)) = (40 < h.bears.length) := by rw [eq_iff_iff]; omega
 have g4 : ((20 : Int) < (h.kinds.length : Int)) = (20 < h.kinds.length) := by rw [eq_iff_iff]; omega
 have fin : ∀ (b : Bool) (e : Env), b = vastB h → get e 2 = vb b → ownQ T 5 Tryz.f5 M (fun r M' => M' = M ∧ r = vb (vastB h)) .ret e ⟨M.H ++ [VObj.obj (hallC h)], M.lg⟩ [] := fun b e hb he => own_ret1 rfl (by rw [he, hb]; rfl) rfl
 ((repeat refine Ws ?_);refine Wr ?_)
 by_cases a1 : 40 < h.water.length
 ·simp (maxSteps := 1000000) only [VL,VM,↓VG,reduceIte,reduceCtorEq,zA,zB,zC,zD,zE,zF,zG,zH,zI,zJ, g1, a1]
  (repeat refine Ws ?_)
  exact W_ret (fin true _ (by rw [hvb]; simp [a1]) rfl)
 by_cases a2 : 40 < h.shut.length
 ·simp (maxSteps := 1000000) only [VL,VM,↓VG,reduceIte,reduceCtorEq,zA,zB,zC,zD,zE,zF,zG,zH,zI,zJ, g1, a1, g2, a2]
  (repeat refine Ws ?_)
  exact W_ret (fin true _ (by rw [hvb]; simp [a2]) rfl)
 by_cases a3 : 40 < h.bears.length
 ·simp (maxSteps := 1000000) only [VL,VM,↓VG,reduceIte,reduceCtorEq,zA,zB,zC,zD,zE,zF,zG,zH,zI,zJ, g1, a1, g2, a2, g3, a3]
  (repeat refine Ws ?_)
  exact W_ret (fin true _ (by rw [hvb]; simp [a3]) rfl)
 by_cases a4 : 20 < h.kinds.length
 ·simp (maxSteps := 1000000) only [VL,VM,↓VG,reduceIte,reduceCtorEq,zA,zB,zC,zD,zE,zF,zG,zH,zI,zJ, g1, a1, g2, a2, g3, a3, g4, a4]
  (repeat refine Ws ?_)
  exact W_ret (fin true _ (by rw [hvb]; simp [a4]) rfl)
 ·simp (maxSteps := 1000000) only [VL,VM,↓VG,reduceIte,reduceCtorEq,zA,zB,zC,zD,zE,zF,zG,zH,zI,zJ, g1, a1, g2, a2, g3, a3, g4, a4]
  (repeat refine Ws ?_)
  exact W_ret (fin false _ (by rw [hvb]; simp [a1, a2, a3, a4]) rfl)
end Go.Proofs.YtominlgikchnmaaGreatDoor.Vm

/- Halls made of numbers, in plain Lean, and how they end. (Vm) -/
namespace Go.Proofs.YtominlgikchnmaaGreatDoor.Vm
open Go Go.Proofs
theorem addLg_has {id r : Nat} {lg : List (Nat × Nat)} (h : (id, r) ∈ lg) : addLg id [r] lg = lg := by
 unfold addLg
 have h1 : (lg.any fun e => Nat.beq e.1 id && Nat.beq e.2 r) = true := List.any_eq_true.2 ⟨(id, r), h, by simp⟩
 have h2 : List.filter (fun r => Nat.blt id r && !(lg.any fun e => Nat.beq e.1 id && Nat.beq e.2 r)) [r] = [] := by
  rw [List.filter_cons]
  simp [h1]
 rw [h2]
theorem rowOf_mem {c : Pl} {y n : Nat} : c ∈ rowOf y n ↔ c.y = (y : Int) ∧ 0 ≤ c.x ∧ c.x < n := by
 unfold rowOf
 rw [List.mem_map]
 constructor
 ·rintro ⟨x, hx, rfl⟩
  have := List.mem_range.1 hx
  exact ⟨rfl, Int.natCast_nonneg _, Int.ofNat_lt.2 this⟩
 ·rintro ⟨h1, h2, h3⟩
  refine ⟨c.x.toNat, List.mem_range.2 (by omega), ?_⟩
  cases c
  simp only at h1 h2 h3 ⊢
  rw [h1]
  congr 1
  omega
theorem rowsOf_mem {c : Pl} {n wd : Nat} : c ∈ rowsOf n wd ↔ 0 ≤ c.y ∧ c.y < n ∧ 0 ≤ c.x ∧ c.x < wd := by
 unfold rowsOf
 rw [List.mem_flatMap]
 constructor
 ·rintro ⟨y, hy, hc⟩
  rw [rowOf_mem] at hc
  have := List.mem_range.1 hy
  omega
 ·rintro ⟨h1, h2, h3, h4⟩
  exact ⟨c.y.toNat, List.mem_range.2 (by omega), rowOf_mem.2 (by omega)⟩
theorem rowOf_nodup (y n : Nat) : (rowOf y n).Nodup := by
 unfold rowOf
 rw [List.nodup_iff_pairwise_ne, List.pairwise_map]
 exact List.nodup_range.imp fun h e => h (by have := congrArg Pl.x e; simp only at this; omega)
theorem rowsOf_nodup (n wd : Nat) : (rowsOf n wd).Nodup := by
 induction n with
 | zero => simp [rowsOf]
 | succ n ih =>
  rw [rowsOf_succ, List.nodup_append]
  refine ⟨ih, rowOf_nodup n wd, fun a ha b hb e => ?_⟩
  subst e
  rw [rowsOf_mem] at ha
  rw [rowOf_mem] at hb
  omega
theorem nodup_has {l : List Pl} (h : l.Nodup) {i : Nat} {c : Pl} (hx : l[i]? = some c) : hasPl (l.take i) c = false := by
 unfold hasPl
 rw [← Bool.not_eq_true, List.contains_iff_mem]
 intro hm
 obtain ⟨j, hj, e⟩ := List.getElem_of_mem hm
 rw [List.length_take] at hj
 rw [List.getElem_take] at e
 have hi := (List.getElem?_eq_some_iff.1 hx)
 obtain ⟨hil, he⟩ := hi
 have := List.pairwise_iff_getElem.1 (List.nodup_iff_pairwise_ne.1 h) j i (by omega) hil (by omega)
 rw [e, he] at this
 exact this rfl
theorem cells_sub {h : Ha} {l : List Pl} {wd dp : Nat} (hs : l.Sublist (rowsOf dp wd)) (hw : h.wide = wd) (hd : h.deep = dp) (hn : dp * wd ≤ 24) : cellsErr h l = 0 := by
 have hlen := hs.length_le
 rw [rowsOf_len] at hlen
 unfold cellsErr
 rw [if_neg (by omega), firstErr_zero]
 intro i hi
 have hx : l[i]? = some l[i] := List.getElem?_eq_getElem hi
 have hm := rowsOf_mem.1 (hs.subset (List.getElem_mem hi))
 generalize l[i] = c at hx hm
 have h1 : isPl h c = true := by
  simp only [isPl, Bool.and_eq_true, inR_true]
  omega
 have h2 := nodup_has (hs.nodup (rowsOf_nodup dp wd)) hx
 unfold cellErr
 rw [hx]
 simp [h1, h2]
structure KGood (n : Nat) (k : Ki) : Prop where
 lo : 0 ≤ k.lo
 le : k.lo ≤ k.hi
 hi : k.hi ≤ 60
 len : k.away.length = n
 aw : ∀ a ∈ k.away, 0 ≤ a ∧ a ≤ 3
 rent : 0 ≤ k.rent ∧ k.rent ≤ 49
 most : 1 ≤ k.most ∧ k.most ≤ 5
structure HGood (wd dp : Nat) (h : Ha) : Prop where
 w : h.wide = wd
 d : h.deep = dp
 w1 : 1 ≤ wd ∧ wd ≤ 6
 d1 : 1 ≤ dp ∧ dp ≤ 4
 ws : h.water.Sublist (rowsOf dp wd)
 ss : h.shut.Sublist (rowsOf dp wd)
 bx : 1 ≤ h.bay.x ∧ h.bay.x ≤ h.wide
 by_ : 1 ≤ h.bay.y ∧ h.bay.y ≤ h.deep
 bl : (h.bears.length : Int) = baysOf h
 bs : ∀ b ∈ h.bears, 0 ≤ b ∧ b ≤ 300
 k1 : 1 ≤ h.kinds.length ∧ h.kinds.length ≤ 6
 ks : ∀ k ∈ h.kinds, KGood h.kinds.length k
theorem KGood.ok {h : Ha} {k : Ki} (g : KGood h.kinds.length k) : kindErr h k = 0 := by
 obtain ⟨g1, g2, g3, g4, g5, g6, g7⟩ := g
 have a1 : inR k.lo 0 1000000 = true := inR_true.2 (by omega)
 have a2 : inR k.hi 0 1000000 = true := inR_true.2 (by omega)
 have a3 : inR k.rent 0 1000000 = true := inR_true.2 (by omega)
 have a4 : inR k.most 0 24 = true := inR_true.2 (by omega)
 have a5 : k.away.any (fun n => !inR n 0 9) = false := by
  rw [List.any_eq_false]
  intro a ha
  have := g5 a ha
  rw [inR_true.2 (show 0 ≤ a ∧ a ≤ 9 by omega)]
  simp
 unfold kindErr
 rw [a1, a2, a3, a4, a5]
 simp [g4]
 omega
theorem HGood.ok {wd dp : Nat} {h : Ha} (g : HGood wd dp h) : hallErr h = 0 := by
 obtain ⟨g1, g2, g3, g4, g5, g6, g7, g8, g9, g10, g11, g12⟩ := g
 have hn : dp * wd ≤ 24 := by
  have : dp * wd ≤ 4 * 6 := Nat.mul_le_mul g4.2 g3.2
  omega
 have a1 : inR h.wide 1 6 = true := inR_true.2 (by omega)
 have a2 : inR h.deep 1 4 = true := inR_true.2 (by omega)
 have a3 : inR h.bay.x 1 h.wide = true := inR_true.2 g7
 have a4 : inR h.bay.y 1 h.deep = true := inR_true.2 g8
 have a5 : h.bears.any (fun n => !inR n 0 10000000) = false := by
  rw [List.any_eq_false]
  intro a ha
  have := g10 a ha
  rw [inR_true.2 (show 0 ≤ a ∧ a ≤ 10000000 by omega)]
  simp
 have a6 : firstErr (kindErrAt h) h.kinds.length = 0 := by
  rw [firstErr_zero]
  intro i hi
  unfold kindErrAt
  rw [List.getElem?_eq_getElem hi]
  exact (g12 _ (List.getElem_mem hi)).ok
 unfold hallErr
 rw [a1, a2, a3, a4, a5, a6, cells_sub g5 g1 g2 hn, cells_sub g6 g1 g2 hn]
 rw [if_neg (by decide), if_neg (by decide), if_neg (by decide), if_neg (by decide), if_neg (by rw [g9]; simp), if_neg (by decide), if_neg (by omega), if_neg (by omega)]
theorem bays_le {h : Ha} (V : VH h) : baysOf h ≤ 24 := by
 have hx := V.x1
 have hy := V.y1
 have hw := V.w2
 have hd := V.d2
 have w1 := V.w1
 have d1 := V.d1
 unfold baysOf colsOf
 rw [div_up hx, div_up hy]
 have h1 := div_le (n := h.wide - 1) (b := h.bay.x) (by omega) hx
 have h2 := div_le (n := h.deep - 1) (b := h.bay.y) (by omega) hy
 have := mul_le (a := (h.wide - 1) / h.bay.x + 1) (b := (h.deep - 1) / h.bay.y + 1) (m := 6) (n := 4) (by omega) (by omega) (by omega) (by omega)
 omega
theorem HGood.fin {wd dp : Nat} {h : Ha} (g : HGood wd dp h) : Fin h := by
 have V := VH.of g.ok
 have h1 := cells_len V.water
 have h2 := cells_len V.shut
 have hb := bays_le V
 have h3 := V.bears
 have h4 := V.kinds6
 exact ⟨by omega, by omega, by omega, by omega, fun k hk => by have := (g.ks k hk).len; omega⟩
end Go.Proofs.YtominlgikchnmaaGreatDoor.Vm
