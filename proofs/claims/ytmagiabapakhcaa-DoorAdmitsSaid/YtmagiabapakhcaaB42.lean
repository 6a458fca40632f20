/- A part of the proofs about the chapter of the doors; it states no condition of its own. -/
import Derived.Test.YtmagiabapakhcaaB22
import Derived.Test.YtmagiabapakhcaaB34
import Derived.Test.YtmagiabapakhcaaB35
import Derived.Test.YtmagiabapakhcaaB38
import Derived.Test.YtmagiabapakhcaaB40
import Derived.Test.YtmagiabapakhcaaB41
set_option linter.unusedVariables false
set_option linter.unusedSimpArgs false
open Int renaming reduceLE → zA, reduceLT → zB, reduceToNat → zC, reduceNeg → zD
open Nat renaming reduceLT → zE, reduceEqDiff → zF, reduceAdd → zG, reduceSub → zH, reduceMul → zI, reduceLeDiff → zJ
/- How many people are safe: whoever comes, so long as it is more than are held, plain. -/
namespace Go.Proofs.Ytmagiabapakhcaa
theorem sumTo_nn {n : Nat} {f : Nat → Int} (h : ∀ i, i < n → 0 ≤ f i) : 0 ≤ sumTo n f := by
 induction n with
 | zero => exact Int.le_refl _
 | succ n ih =>
  rw [sumTo_succ]
  have := ih fun i hi => h i (by omega)
  have := h n (by omega)
  omega
theorem sumTo_term {n : Nat} {f : Nat → Int} (h : ∀ i, i < n → 0 ≤ f i) {k : Nat} (hk : k < n) : f k ≤ sumTo n f := by
 induction n with
 | zero => omega
 | succ n ih =>
  rw [sumTo_succ]
  by_cases e : k = n
  ·subst e
   have := sumTo_nn (n := k) (f := f) fun i hi => h i (by omega)
   omega
  ·have := ih (fun i hi => h i (by omega)) (by omega)
   have := h n (by omega)
   omega
theorem cut_term {N : Nat} {C : List (List Int)} (h0 : ∀ i j, i < N → j < N → 0 ≤ at2 C i j) {S : Nat → Bool} {i j : Nat} (hi : i < N) (hj : j < N) (s1 : S i = true) (s2 : S j = false) : at2 C i j ≤ cutOf N C S := by
 have h1 : ∀ i, i < N → ∀ j, j < N → 0 ≤ (if S i && !S j then at2 C i j else 0) := fun i hi j hj => by
  have := h0 i j hi hj
  split <;> omega
 have h2 := sumTo_term (f := fun j => if S i && !S j then at2 C i j else 0) (fun j hj => h1 i hi j hj) hj
 have h3 := sumTo_term (f := fun i => sumTo N fun j => if S i && !S j then at2 C i j else 0) (fun i hi => sumTo_nn fun j hj => h1 i hi j hj) hi
 have e : (if (S i && !S j) = true then at2 C i j else 0) = at2 C i j := by rw [s1, s2]; rfl
 exact Int.le_trans (Int.le_of_eq e.symm) (Int.le_trans h2 h3)
theorem start_at (nH : Nat) (c : Nat → Int) (a b : Nat) : wsAt (startWs nH c) a b = if a = 0 ∧ 2 ≤ b ∧ b < 2 + nH then c (b - 2) else 0 := by
 unfold startWs
 rw [wsAt_rmap]
 have e : ∀ i : Nat, wsAt [⟨0, placeOf nH (i : Int) 0, c i⟩] a b = if i = b - 2 then (if a = 0 ∧ 2 ≤ b then c (b - 2) else 0) else 0 := fun i => by
  rw [wsAt_cons, wsAt_nil, Int.add_zero]
  have hp : placeOf nH (i : Int) 0 = 2 + i := by unfold placeOf; rw [if_neg (by omega), Int.toNat_natCast]; omega
  simp only
  rw [hp]
  by_cases h1 : i = b - 2
  ·subst h1
   by_cases h2 : a = 0 ∧ 2 ≤ b
   ·rw [if_pos rfl, if_pos h2, if_pos ⟨h2.1.symm, by omega⟩]
   ·rw [if_pos rfl, if_neg h2, if_neg (fun q => h2 ⟨q.1.symm, by omega⟩)]
  ·rw [if_neg h1, if_neg (fun q => h1 (by omega))]
 rw [sumTo_congr fun i _ => e i]
 by_cases h : b - 2 < nH
 ·rw [sumTo_one h]
  by_cases h2 : a = 0 ∧ 2 ≤ b
  ·rw [if_pos h2, if_pos ⟨h2.1, h2.2, by omega⟩]
  ·rw [if_neg h2, if_neg (fun q => h2 ⟨q.1, q.2.1⟩)]
 ·rw [sumTo_congr (g := fun _ => 0) fun i hi => if_neg (by omega), sumTo_const0, if_neg (by omega)]
theorem leave_nn {nH : Nat} {ds : List Do} {ticks : Nat} {closed : List Int} {c : Nat → Int} (hn : 1 ≤ nH) (hd : ∀ d ∈ ds, DoOk nH d) (hc : ∀ i, i < nH → 0 ≤ c i ∧ c i ≤ 1073741824) : 0 ≤ Vm.leaveV nH ds ticks closed c := by
 obtain ⟨_, S, _, _, hS⟩ := leave_MF (ticks := ticks) (closed := closed) hn hd hc
 have w1 := waysOf_ok (ticks := ticks) (closed := closed) hd hc
 rw [← hS]
 unfold cutOf
 refine sumTo_nn fun i hi => sumTo_nn fun j hj => ?_
 have := ((tabW_ok _ _ rfl w1).2 i j).1
 split <;> omega
theorem leave_cap {nH : Nat} {ds : List Do} {ticks : Nat} {closed : List Int} {c1 c2 : Nat → Int} {K : Int} (hn : 1 ≤ nH) (hd : ∀ d ∈ ds, DoOk nH d) (hc1 : ∀ i, i < nH → 0 ≤ c1 i ∧ c1 i ≤ 1073741824) (hc2 : ∀ i, i < nH → 0 ≤ c2 i ∧ c2 i ≤ 1073741824) (hle : ∀ i, i < nH → c1 i ≤ c2 i) (hK : ∀ i, i < nH → c1 i = c2 i ∨ K ≤ c1 i) :
  Vm.leaveV nH ds ticks closed c1 ≤ Vm.leaveV nH ds ticks closed c2 ∧ (Vm.leaveV nH ds ticks closed c1 < K → Vm.leaveV nH ds ticks closed c2 = Vm.leaveV nH ds ticks closed c1) := by
 have h1 := leave_MF (ticks := ticks) (closed := closed) hn hd hc1
 have h2 := leave_MF (ticks := ticks) (closed := closed) hn hd hc2
 have w1 := waysOf_ok (ticks := ticks) (closed := closed) hd hc1
 have w2 := waysOf_ok (ticks := ticks) (closed := closed) hd hc2
 have hN : 2 ≤ 2 + (ticks + 1) * nH := by omega
 have hN2 := nh_le nH ticks
 generalize Vm.leaveV nH ds ticks closed c1 = v1 at h1 ⊢
 generalize Vm.leaveV nH ds ticks closed c2 = v2 at h2 ⊢
 generalize 2 + (ticks + 1) * nH = N at h1 h2 w1 w2 hN hN2
 have a1 : ∀ i j, at2 (tabOfW N (waysOf nH ds ticks closed c1)) i j = (if i = 0 ∧ 2 ≤ j ∧ j < 2 + nH then c1 (j - 2) else 0) + wsAt ((List.range ticks).flatMap (tickWs nH ds closed)) i j := fun i j => by
  rw [tabW_at _ _ rfl w1]
  unfold waysOf
  rw [wsAt_app, start_at]
 have a2 : ∀ i j, at2 (tabOfW N (waysOf nH ds ticks closed c2)) i j = (if i = 0 ∧ 2 ≤ j ∧ j < 2 + nH then c2 (j - 2) else 0) + wsAt ((List.range ticks).flatMap (tickWs nH ds closed)) i j := fun i j => by
  rw [tabW_at _ _ rfl w2]
  unfold waysOf
  rw [wsAt_app, start_at]
 have hr : ∀ i j, 0 ≤ wsAt ((List.range ticks).flatMap (tickWs nH ds closed)) i j := fun i j => wsAt_nn (fun w hw => (w1 w (by unfold waysOf; exact List.mem_append_right _ hw)).lo) i j
 have hm : v1 ≤ v2 := h1.mono hN h2 fun i j _ _ => by
  rw [a1, a2]
  split
  ·have := hle (j - 2) (by omega); omega
  ·omega
 refine ⟨hm, fun hv => ?_⟩
 obtain ⟨_, S, s0, s1, hS⟩ := h1
 have hcut : cutOf N (tabOfW N (waysOf nH ds ticks closed c2)) S = cutOf N (tabOfW N (waysOf nH ds ticks closed c1)) S := by
  unfold cutOf
  refine sumTo_congr fun i hi => sumTo_congr fun j hj => ?_
  cases hsi : S i with
  | false => rfl
  | true =>
   cases hsj : S j with
   | true => rfl
   | false =>
    simp only [Bool.not_false, Bool.and_true, if_true]
    rw [a1, a2]
    split
    ·rename_i h
     rcases hK (j - 2) (by omega) with e | e
     ·rw [e]
     ·have ht := cut_term (fun i j _ _ => ((tabW_ok _ _ rfl w1).2 i j).1) hi hj hsi hsj
      rw [hS, a1, if_pos h] at ht
      have := hr i j
      omega
    ·rfl
 have := h2.le_cut hN s0 s1
 omega
theorem leaveV_congr {nH : Nat} {ds : List Do} {ticks : Nat} {closed : List Int} {c1 c2 : Nat → Int} (h : ∀ i, i < nH → c1 i = c2 i) : Vm.leaveV nH ds ticks closed c1 = Vm.leaveV nH ds ticks closed c2 := by
 have e : startWs nH c1 = startWs nH c2 := by
  unfold startWs
  refine List.map_congr_left fun i hi => ?_
  rw [h i (by simpa using hi)]
 unfold Vm.leaveV waysOf
 rw [e]
def comeL (s j : Nat) : Int := if s.testBit j then 1073741824 else 0
theorem held_bd4 {h : Ho} (V : HV h) (s : Nat) : 0 ≤ heldS s 0 h.holds ∧ heldS s 0 h.holds ≤ 40000 := by
 have h1 := heldS_bd s h.holds 0 V.holds
 have := V.n1
 omega
theorem held_none {s : Nat} : ∀ (l : List Int) (i : Nat), (∀ j, s.testBit j = false) → heldS s i l = 0
 | [], _, _ => rfl
 | n :: l, i, h => by
  rw [heldS, h i, held_none l (i + 1) h]; rfl
theorem best_r {h : Ho} (V : HV h) (ticks : Nat) (closed : List Int) (b : Int) (s : Nat) : bestS h ticks closed b s = if Vm.leaveV h.holds.length h.doors ticks closed (comeL s) < heldS s 0 h.holds then min b (Vm.leaveV h.holds.length h.doors ticks closed (comeL s)) else b := by
 have hd : ∀ d ∈ h.doors, DoOk h.holds.length d := fun d hd => (V.doors d hd).ok
 have hb := held_bd4 V s
 obtain ⟨h1, h2⟩ := leave_cap (ticks := ticks) (closed := closed) (c1 := comeS s) (c2 := comeL s) (K := 40000) V.n0 hd (fun i _ => by unfold comeS; split <;> omega) (fun i _ => by unfold comeL; split <;> omega) (fun i _ => by unfold comeS comeL; split <;> omega) (fun i _ => by unfold comeS comeL; split; exact .inr (by omega); exact .inl rfl)
 unfold bestS outS
 by_cases e : Vm.leaveV h.holds.length h.doors ticks closed (comeS s) < 40000
 ·rw [h2 e]
 ·rw [if_neg (by omega), if_neg (by omega)]
theorem best_0 {h : Ho} (V : HV h) (ticks : Nat) (closed : List Int) (b : Int) : bestS h ticks closed b 0 = b := by
 have hd : ∀ d ∈ h.doors, DoOk h.holds.length d := fun d hd => (V.doors d hd).ok
 have h0 := leave_nn (ticks := ticks) (closed := closed) (c := comeS 0) V.n0 hd (fun i _ => by unfold comeS; split <;> omega)
 unfold bestS outS
 rw [held_none h.holds 0 (fun j => Nat.zero_testBit j), if_neg (by omega)]
def plOf (s n i : Nat) : List Int := (List.range n).map fun j => if decide (j < i) && s.testBit j then 1073741824 else 0
theorem plOf_len (s n i : Nat) : (plOf s n i).length = n := by simp [plOf]
theorem plOf_0 (s n : Nat) : plOf s n 0 = List.replicate n 0 := by
 unfold plOf
 rw [List.map_congr_left (g := fun _ => (0 : Int)) fun j _ => by simp]
 apply List.ext_getElem?
 intro j
 rw [List.getElem?_map, List.getElem?_replicate]
 rcases Nat.lt_or_ge j n with q | q
 ·rw [List.getElem?_range q, if_pos q]; rfl
 ·rw [List.getElem?_eq_none (by simpa using q), if_neg (by omega)]; rfl
theorem plOf_yes {s n i : Nat} (hi : i < n) (hs : s.testBit i = true) : (plOf s n i).set i 1073741824 = plOf s n (i + 1) := by
 apply List.ext_getElem?
 intro j
 unfold plOf
 rw [List.getElem?_set]
 by_cases e : i = j
 ·subst e
  rw [if_pos rfl, if_pos (by simpa using hi), List.getElem?_map, List.getElem?_range hi]
  simp [hs]
 ·rw [if_neg e, List.getElem?_map, List.getElem?_map]
  rcases Nat.lt_or_ge j n with q | q
  ·rw [List.getElem?_range q]
   simp only [Option.map_some]
   congr 2
   rw [show decide (j < i) = decide (j < i + 1) by congr 1; apply propext; omega]
  ·rw [List.getElem?_eq_none (by simpa using q)]; rfl
theorem plOf_no {s n i : Nat} (hs : s.testBit i = false) : plOf s n (i + 1) = plOf s n i := by
 unfold plOf
 refine List.map_congr_left fun j _ => ?_
 by_cases e : j = i
 ·subst e; simp [hs]
 ·rw [show decide (j < i + 1) = decide (j < i) by congr 1; apply propext; omega]
theorem plOf_come {s n j : Nat} (hj : j < n) : comeOf (plOf s n n) j = comeL s j := by
 unfold comeOf plOf comeL
 rw [List.getD_eq_getElem?_getD, List.getElem?_map, List.getElem?_range hj]
 simp [hj]
theorem plOf_bd (s n i : Nat) : ∀ x ∈ plOf s n i, 0 ≤ x ∧ x ≤ 1073741824 := by
 intro x hx
 obtain ⟨j, _, rfl⟩ := List.mem_map.1 hx
 split <;> omega
end Go.Proofs.Ytmagiabapakhcaa

/- The reference: how many people are safe, on values. (Vm) -/
namespace Go.Proofs.Ytmagiabapakhcaa.Vm
open Go Go.Proofs
theorem i_shl1 (t : Nat) (n : Nat) (hn : n ≤ 4) : vbin T .shl t (vi 1) (vi n) = some (vi ((2 ^ n : Nat) : Int)) := by
 rcases n with _ | _ | _ | _ | _ | n
 ·rfl
 ·rfl
 ·rfl
 ·rfl
 ·rfl
 ·omega
theorem i_shr (t q i : Nat) (hi : i < 4) : vbin T .shr t (vi (q : Int)) (vi (i : Int)) = some (vi ((q / 2 ^ i : Nat) : Int)) := by
 have h2 : Go.binOp .shr 0 (.int .i64 (q : Int)) (.int .i64 (i : Int)) = .pure (.int .i64 ((q / 2 ^ i : Nat) : Int)) := by
  show Op.shift .shr .i64 (q : Int) .i64 (i : Int) = _
  unfold Op.shift
  rcases i with _ | _ | _ | _ | i
  ·rw [if_neg (by decide)]
   have h3 : (q : Int).fdiv (2 ^ (min ((0 : Nat) : Int).toNat IntKind.i64.bits)) = ((q / 2 ^ 0 : Nat) : Int) := by
    show (q : Int).fdiv 1 = _
    rw [Int.fdiv_eq_ediv_of_nonneg _ (by omega)]
    omega
   simp only [h3]
   rfl
  ·rw [if_neg (by decide)]
   have h3 : (q : Int).fdiv (2 ^ (min ((0 + 1 : Nat) : Int).toNat IntKind.i64.bits)) = ((q / 2 ^ (0 + 1) : Nat) : Int) := by
    show (q : Int).fdiv 2 = _
    rw [Int.fdiv_eq_ediv_of_nonneg _ (by omega)]
    omega
   simp only [h3]
   rfl
  ·rw [if_neg (by decide)]
   have h3 : (q : Int).fdiv (2 ^ (min ((0 + 1 + 1 : Nat) : Int).toNat IntKind.i64.bits)) = ((q / 2 ^ (0 + 1 + 1) : Nat) : Int) := by
    show (q : Int).fdiv 4 = _
    rw [Int.fdiv_eq_ediv_of_nonneg _ (by omega)]
    omega
   simp only [h3]
   rfl
  ·rw [if_neg (by decide)]
   have h3 : (q : Int).fdiv (2 ^ (min ((0 + 1 + 1 + 1 : Nat) : Int).toNat IntKind.i64.bits)) = ((q / 2 ^ (0 + 1 + 1 + 1) : Nat) : Int) := by
    show (q : Int).fdiv 8 = _
    rw [Int.fdiv_eq_ediv_of_nonneg _ (by omega)]
    omega
   simp only [h3]
   rfl
  ·omega
 simp only [vbin, h2, pureOf, Option.map_some, ofValue]
def andI (a b : Int) : Int := IntKind.i64.wrap (BitVec.ofInt 64 a &&& BitVec.ofInt 64 b).toNat
theorem i_and (t : Nat) (a b : Int) : vbin T .and t (vi a) (vi b) = some (vi (andI a b)) := rfl
theorem i_bit (s i : Nat) (hs : s < 16) (hi : i < 4) : decide (andI ((s / 2 ^ i : Nat) : Int) 1 = 1) = s.testBit i := by
 have : ∀ s : Fin 16, ∀ i : Fin 4, decide (andI ((s.val / 2 ^ i.val : Nat) : Int) 1 = 1) = Nat.testBit s.val i.val := by decide
 exact this ⟨s, hs⟩ ⟨i, hi⟩
theorem flat_i : ∀ xs : List Int, List.map VV.p (List.map intP xs).flatten = xs.map vi
 | [] => rfl
 | x :: xs => by simp [flat_i xs]
set_option maxHeartbeats 2000000 in
set_option maxRecDepth 8000 in
theorem admit_r (h : Ho) (V : HV h) (ticks : Nat) (closed : List Int) (M : Mem) (ht : ticks ≤ 12) (hc : closed.length ≤ 1000000) : VC Try.prog 94 [houseV h, vi ticks, intsV closed] M (fun r M' => M' = M ∧ r = vi (admitV h ticks closed)) := by
 have n1 := V.n1
 obtain ⟨nH, hnH⟩ : ∃ nH, nH = h.holds.length := ⟨_, rfl⟩
 have hn4 : nH ≤ 4 := by omega
 have h16 : 2 ^ nH ≤ 16 := Nat.pow_le_pow_right (show 0 < 2 by omega) hn4
 have hadm : admitV h ticks closed = (List.range (2 ^ nH)).foldl (bestS h ticks closed) h.holds.sum := by rw [hnH]; rfl
 refine VC_own' T_ok (f := 94) (fn := Try.f94) (by kernel_rfl) rfl Try.ntmps94 (by rfl) (by rfl) ?_
 ((repeat refine Ws ?_);refine Wr ?_)
 simp (maxSteps := 1000000) only [VL,VM,↓VG,reduceIte,reduceCtorEq,zA,zB,zC,zD,zE,zF,zG,zH,zI,zJ]
 ((repeat refine Ws ?_);refine Wr ?_)
 simp (maxSteps := 1000000) only [VL,VM,↓VG,reduceIte,reduceCtorEq,zA,zB,zC,zD,zE,zF,zG,zH,zI,zJ]
 apply call_eq (f := 80) (fn := Try.f80) (by kernel_rfl) (by rfl)
 ·exact sum_r h.holds _ (by omega) (fun x hx => by have := V.holds x hx; omega)
 simp (maxSteps := 1000000) only [VL,VM,↓VG,reduceIte,reduceCtorEq,zA,zB,zC,zD,zE,zF,zG,zH,zI,zJ]
 ((repeat refine Ws ?_);refine Wr ?_)
 simp (maxSteps := 1000000) only [VL,VM,↓VG,reduceIte,reduceCtorEq,zA,zB,zC,zD,zE,zF,zG,zH,zI,zJ]
 have h0 : h.holds.sum = (List.range 1).foldl (bestS h ticks closed) h.holds.sum := (best_0 V ticks closed _).symm
 rw [h0]
 generalize hsum : h.holds.sum = sm at hadm ⊢
 ((repeat refine Ws ?_);refine W_block ?_; (repeat refine Ws ?_)); refine W_loopS (fun s : AdSt => [(1, vi ticks), (2, intsV closed), (3, .ptr M.H.length 0), (7, vi ((List.range s.s).foldl (bestS h ticks closed) sm)), (8, vi s.s)]) (fun s => ⟨M.H ++ (VObj.obj (houseC h) :: s.junk), M.lg⟩) (fun s => 2 ^ nH - s.s) (fun s => s.s ≤ 2 ^ nH) ⟨1, []⟩ (Nat.one_le_two_pow) ⟨rfl, rfl, rfl, rfl, rfl, trivial⟩ rfl ?_
 rintro ⟨s, junk⟩ hs
 simp only at hs
 have k1 : -9223372036854775808 ≤ (s : Int) + 1 ∧ (s : Int) + 1 < 9223372036854775808 := by omega
 have shl := i_shl1 3 nH hn4
 ((repeat refine Ws ?_);refine Wr ?_)
 rcases Nat.lt_or_ge s (2 ^ nH) with hlt | hge
 rotate_left
 ·have k2 : ((s : Int) < ((2 ^ nH : Nat) : Int)) = False := eq_false (by omega)
  obtain rfl : s = 2 ^ nH := by omega
  simp (maxSteps := 1000000) only [VL,VM,↓VG,reduceIte,reduceCtorEq,zA,zB,zC,zD,zE,zF,zG,zH,zI,zJ, ← hnH, shl, k2]
  ((repeat refine Ws ?_);refine Wf (by first|rfl|simp only [EV,zF,reduceIte]) ?_)
  ((repeat refine Ws ?_);refine W_exit ?_)
  simp (maxSteps := 1000000) only [VL,VM,↓VG,reduceIte,reduceCtorEq,zA,zB,zC,zD,zE,zF,zG,zH,zI,zJ]
  ((repeat refine Ws ?_);refine Wr ?_)
  simp (maxSteps := 1000000) only [VL,VM,↓VG,reduceIte,reduceCtorEq,zA,zB,zC,zD,zE,zF,zG,zH,zI,zJ]
  (repeat refine Ws ?_)
  refine W_ret ?_
  try simp only [thenQ, blockQ]
  refine own_ret1 rfl ?_ (by rfl)
  simp only [get_cons, frz, vtup, Nat.reduceEqDiff, if_true, if_false, reduceIte]
  rw [hadm]
 have k2 : ((s : Int) < ((2 ^ nH : Nat) : Int)) = True := eq_true (by omega)
 have q1 : (nH * 8 ≤ 140737488355328) = True := eq_true (by omega)
 have q2 : (nH ≤ 9223372036854775807) = True := eq_true (by omega)
 simp (maxSteps := 1000000) only [VL,VM,↓VG,reduceIte,reduceCtorEq,zA,zB,zC,zD,zE,zF,zG,zH,zI,zJ, ← hnH, shl, k2]
 ((repeat refine Ws ?_);refine Wt (by first|rfl|simp only [EV,zF,reduceIte]) ?_)
 ((repeat refine Ws ?_);refine W_skip ?_)
 simp (maxSteps := 1000000) only [VL,VM,↓VG,reduceIte,reduceCtorEq,zA,zB,zC,zD,zE,zF,zG,zH,zI,zJ]
 ((repeat refine Ws ?_);refine W_block ?_)
 ((repeat refine Ws ?_);refine Wr ?_)
 simp (maxSteps := 1000000) only [VL,VM,↓VG,reduceIte,reduceCtorEq,zA,zB,zC,zD,zE,zF,zG,zH,zI,zJ, ← hnH, q1, q2, rep_flat]
 ((repeat refine Ws ?_);refine Wr ?_)
 simp (maxSteps := 1000000) only [VL,VM,↓VG,reduceIte,reduceCtorEq,zA,zB,zC,zD,zE,zF,zG,zH,zI,zJ]
 ((repeat refine Ws ?_);refine Wr ?_)
 simp (maxSteps := 1000000) only [VL,VM,↓VG,reduceIte,reduceCtorEq,zA,zB,zC,zD,zE,zF,zG,zH,zI,zJ]
 have hgP : ∀ o : VObj, (M.H ++ (VObj.obj (houseC h) :: (junk ++ [o])))[M.H.length + (1 + junk.length)]? = some o := fun o => by
  rw [hget, show 1 + junk.length = junk.length + 1 by omega, List.getElem?_cons_succ, hget0]; rfl
 have hsP : ∀ o o' : VObj, (M.H ++ (VObj.obj (houseC h) :: (junk ++ [o]))).set (M.H.length + (1 + junk.length)) o' = M.H ++ (VObj.obj (houseC h) :: (junk ++ [o'])) := fun o o' => by
  rw [hset, show 1 + junk.length = junk.length + 1 by omega, List.set_cons_succ, hset0]; rfl
 have z0 : List.replicate nH (vi 0) = (plOf s nH 0).map vi := by rw [plOf_0]; simp
 ((repeat refine Ws ?_);refine W_block ?_; (repeat refine Ws ?_)); refine W_loopS (fun i : Nat => [(1, vi ticks), (2, intsV closed), (3, .ptr M.H.length 0), (7, vi ((List.range s).foldl (bestS h ticks closed) sm)), (8, vi s), (9, .bf (M.H.length + (1 + junk.length)) 0 nH 1), (10, vi (heldS s 0 (h.holds.take i))), (11, vi i)]) (fun i => ⟨M.H ++ (VObj.obj (houseC h) :: (junk ++ [.obj ((plOf s nH i).map vi)])), M.lg⟩) (fun i => nH - i) (fun i => i ≤ nH) 0 (Nat.zero_le _) ⟨rfl, rfl, rfl, rfl, rfl, ?_, rfl, rfl, trivial⟩ (by rw [← z0]) ?_
 ·simp [get_cons, Nat.add_comm]
 intro i hi
 have k3 : -9223372036854775808 ≤ (i : Int) + 1 ∧ (i : Int) + 1 < 9223372036854775808 := by omega
 have hhb := heldS_bd s (h.holds.take i) 0 fun n hn => V.holds n (List.mem_of_mem_take hn)
 have htl : ((h.holds.take i).length : Int) ≤ 4 := by rw [List.length_take]; omega
 ((repeat refine Ws ?_);refine Wr ?_)
 rcases Nat.lt_or_ge i nH with hit | hge
 ·have k4 : ((i : Int) < (nH : Int)) = True := eq_true (by omega)
  have hx : h.holds[i]? = some (h.holds[i]'(by omega)) := List.getElem?_eq_getElem (by omega)
  have hxm := V.holds _ (List.getElem_mem (l := h.holds) (n := i) (by omega))
  have htk : h.holds.take (i + 1) = h.holds.take i ++ [h.holds[i]'(by omega)] := by rw [List.take_add_one, hx]; rfl
  generalize h.holds[i]'(by omega) = x at hx hxm htk
  have hx' := map_at (f := intP) hx
  have hnx : heldS s 0 (h.holds.take (i + 1)) = heldS s 0 (h.holds.take i) + (if s.testBit i then x else 0) := by
   rw [htk, heldS_snoc, List.length_take, Nat.min_eq_left (by omega), Nat.zero_add]
  have e1 := i_shr 3 s i (by omega)
  have e2 := i_bit s i (by omega) (by omega)
  simp (maxSteps := 1000000) only [VL,VM,↓VG,reduceIte,reduceCtorEq,zA,zB,zC,zD,zE,zF,zG,zH,zI,zJ, k4]
  ((repeat refine Ws ?_);refine Wt (by first|rfl|simp only [EV,zF,reduceIte]) ?_)
  ((repeat refine Ws ?_);refine W_skip ?_)
  simp (maxSteps := 1000000) only [VL,VM,↓VG,reduceIte,reduceCtorEq,zA,zB,zC,zD,zE,zF,zG,zH,zI,zJ]
  ((repeat refine Ws ?_);refine W_block ?_)
  ((repeat refine Ws ?_);refine Wr ?_)
  simp (maxSteps := 1000000) only [VL,VM,↓VG,reduceIte,reduceCtorEq,zA,zB,zC,zD,zE,zF,zG,zH,zI,zJ, e1, i_and, e2]
  cases hb : s.testBit i
  ·rw [hb] at hnx
   ((repeat refine Ws ?_);refine Wf (by first|rfl|simp only [EV,zF,reduceIte]) ?_)
   ((repeat refine Ws ?_);refine W_skip ?_)
   simp (maxSteps := 1000000) only [VL,VM,↓VG,reduceIte,reduceCtorEq,zA,zB,zC,zD,zE,zF,zG,zH,zI,zJ]
   ((repeat refine Ws ?_);refine Wr ?_)
   simp (maxSteps := 1000000) only [VL,VM,↓VG,reduceIte,reduceCtorEq,zA,zB,zC,zD,zE,zF,zG,zH,zI,zJ, k3]
   refine LoopK.mk (i + 1) (by omega) (by omega) ⟨rfl, rfl, rfl, rfl, rfl, rfl, ?_, rfl, trivial⟩ ?_
   ·rw [hnx]
    simp [get_cons]
   ·rw [plOf_no hb]
  ·rw [hb, if_pos rfl] at hnx
   have k5 : -9223372036854775808 ≤ heldS s 0 (h.holds.take i) + x ∧ heldS s 0 (h.holds.take i) + x < 9223372036854775808 := by omega
   have sp : List.map vi (List.take i (plOf s nH i)) ++ vi 1073741824 :: List.map vi (List.drop (i + 1) (plOf s nH i)) = List.map vi (plOf s nH (i + 1)) := by
    rw [← plOf_yes hit hb, List.set_eq_take_append_cons_drop, if_pos (by rw [plOf_len]; exact hit)]
    simp
   have le : (i + 1 ≤ (plOf s nH i).length) = True := eq_true (by rw [plOf_len]; omega)
   ((repeat refine Ws ?_);refine Wt (by first|rfl|simp only [EV,zF,reduceIte]) ?_)
   ((repeat refine Ws ?_);refine Wr ?_)
   simp (maxSteps := 1000000) only [VL,VM,↓VG,reduceIte,reduceCtorEq,zA,zB,zC,zD,zE,zF,zG,zH,zI,zJ, hx', k5, eq_true hit, hgP, hsP, le, sp]
   ((repeat refine Ws ?_);refine Wr ?_)
   simp (maxSteps := 1000000) only [VL,VM,↓VG,reduceIte,reduceCtorEq,zA,zB,zC,zD,zE,zF,zG,zH,zI,zJ, k3]
   refine LoopK.mk (i + 1) (by omega) (by omega) ⟨rfl, rfl, rfl, rfl, rfl, rfl, ?_, rfl, trivial⟩ rfl
   rw [hnx]
   simp [get_cons]
 have k4 : ((i : Int) < (nH : Int)) = False := eq_false (by omega)
 obtain rfl : i = nH := by omega
 rw [hnH, List.take_length] at hhb
 simp (maxSteps := 1000000) only [VL,VM,↓VG,reduceIte,reduceCtorEq,zA,zB,zC,zD,zE,zF,zG,zH,zI,zJ, k4]
 ((repeat refine Ws ?_);refine Wf (by first|rfl|simp only [EV,zF,reduceIte]) ?_)
 ((repeat refine Ws ?_);refine W_exit ?_)
 simp (maxSteps := 1000000) only [VL,VM,↓VG,reduceIte,reduceCtorEq,zA,zB,zC,zD,zE,zF,zG,zH,zI,zJ]
 rw [show h.holds.take i = h.holds by rw [hnH, List.take_length]]
 refine W_frzT (t := 9) (id := M.H.length + (1 + junk.length)) (n := i) (k := 1) (xs := (plOf s i i).map intP) (by rw [hgP, flat_i]) rfl (by simp) (by rw [List.length_map, plOf_len]) ?_
 simp only [hsP]
 have hout := Out_r h V (plOf s i i) ticks closed
 rw [plOf_len, ← hnH, leaveV_congr (fun j hj => plOf_come hj)] at hout
 have hbr := best_r V ticks closed ((List.range s).foldl (bestS h ticks closed) sm) s
 rw [← hnH] at hbr
 have hfs : (List.range (s + 1)).foldl (bestS h ticks closed) sm = bestS h ticks closed ((List.range s).foldl (bestS h ticks closed) sm) s := by rw [List.range_succ, List.foldl_append]; rfl
 rw [← hfs] at hbr
 clear hfs
 generalize (List.range s).foldl (bestS h ticks closed) sm = b at hbr ⊢
 ((repeat refine Ws ?_);refine Wr ?_)
 simp (maxSteps := 1000000) only [VL,VM,↓VG,reduceIte,reduceCtorEq,zA,zB,zC,zD,zE,zF,zG,zH,zI,zJ]
 apply call_eq (f := 79) (fn := Try.f79) (by kernel_rfl) (by rfl)
 ·exact hout _ rfl (plOf_bd s i i) ht hc
 simp (maxSteps := 1000000) only [VL,VM,↓VG,reduceIte,reduceCtorEq,zA,zB,zC,zD,zE,zF,zG,zH,zI,zJ]
 ((repeat refine Ws ?_);refine Wr ?_)
 by_cases hlt2 : leaveV i h.doors ticks closed (comeL s) < heldS s 0 h.holds
 ·have k5 : (leaveV i h.doors ticks closed (comeL s) < heldS s 0 h.holds) = True := eq_true hlt2
  rw [if_pos hlt2] at hbr
  simp (maxSteps := 1000000) only [VL,VM,↓VG,reduceIte,reduceCtorEq,zA,zB,zC,zD,zE,zF,zG,zH,zI,zJ, k5]
  ((repeat refine Ws ?_);refine Wt (by first|rfl|simp only [EV,zF,reduceIte]) ?_)
  ((repeat refine Ws ?_);refine Wr ?_)
  simp (maxSteps := 1000000) only [VL,VM,↓VG,reduceIte,reduceCtorEq,zA,zB,zC,zD,zE,zF,zG,zH,zI,zJ]
  ((repeat refine Ws ?_);refine Wr ?_)
  simp (maxSteps := 1000000) only [VL,VM,↓VG,reduceIte,reduceCtorEq,zA,zB,zC,zD,zE,zF,zG,zH,zI,zJ, k1]
  refine LoopK.mk ⟨s + 1, junk ++ [.dead]⟩ (by simp only; omega) (by simp only; omega) ⟨rfl, rfl, rfl, ?_, rfl, trivial⟩ rfl
  simp only
  rw [hbr]
  simp [get_cons]
 ·have k5 : (leaveV i h.doors ticks closed (comeL s) < heldS s 0 h.holds) = False := eq_false hlt2
  rw [if_neg hlt2] at hbr
  simp (maxSteps := 1000000) only [VL,VM,↓VG,reduceIte,reduceCtorEq,zA,zB,zC,zD,zE,zF,zG,zH,zI,zJ, k5]
  ((repeat refine Ws ?_);refine Wf (by first|rfl|simp only [EV,zF,reduceIte]) ?_)
  ((repeat refine Ws ?_);refine W_skip ?_)
  simp (maxSteps := 1000000) only [VL,VM,↓VG,reduceIte,reduceCtorEq,zA,zB,zC,zD,zE,zF,zG,zH,zI,zJ]
  ((repeat refine Ws ?_);refine Wr ?_)
  simp (maxSteps := 1000000) only [VL,VM,↓VG,reduceIte,reduceCtorEq,zA,zB,zC,zD,zE,zF,zG,zH,zI,zJ, k1]
  refine LoopK.mk ⟨s + 1, junk ++ [.dead]⟩ (by simp only; omega) (by simp only; omega) ⟨rfl, rfl, rfl, ?_, rfl, trivial⟩ rfl
  simp only
  rw [hbr]
  simp [get_cons]
end Go.Proofs.Ytmagiabapakhcaa.Vm

/- The reference: Admit and Safe, on values. (Vm) -/
namespace Go.Proofs.Ytmagiabapakhcaa.Vm
open Go Go.Proofs
set_option maxHeartbeats 1000000 in
set_option maxRecDepth 8000 in
theorem Admit_r (h : Ho) (ticks : Int) (closed : List Int) (M : Mem) (hl : h.holds.length ≤ 1000000) (hld : h.doors.length ≤ 1000000) (hlc : h.counts.length ≤ 1000000) (hc : closed.length ≤ 1000000) : VC Try.prog 57 [houseV h, vi ticks, intsV closed] M (fun r M' => M' = M ∧ r = .tup [vi (admitR h ticks closed).1, vi (admitR h ticks closed).2]) := by
 have e0 : ticksErr h 0 ticks closed = ticksErr h 0 ticks closed := rfl
 conv at e0 => rhs; unfold ticksErr
 refine VC_own' T_ok (f := 57) (fn := Try.f57) (by kernel_rfl) rfl Try.ntmps57 (by rfl) (by rfl) ?_
 ((repeat refine Ws ?_);refine Wr ?_)
 simp (maxSteps := 1000000) only [VL,VM,↓VG,reduceIte,reduceCtorEq,zA,zB,zC,zD,zE,zF,zG,zH,zI,zJ]
 ((repeat refine Ws ?_);refine Wr ?_)
 simp (maxSteps := 1000000) only [VL,VM,↓VG,reduceIte,reduceCtorEq,zA,zB,zC,zD,zE,zF,zG,zH,zI,zJ]
 apply call_eq (f := 25) (fn := Try.f25) (by kernel_rfl) (by rfl)
 ·exact check_r h _ hl hld hlc
 simp (maxSteps := 1000000) only [VL,VM,↓VG,reduceIte,reduceCtorEq,zA,zB,zC,zD,zE,zF,zG,zH,zI,zJ]
 ((repeat refine Ws ?_);refine Wr ?_)
 by_cases a1 : houseErr h = 0
 rotate_left
 ·rw [if_neg a1] at e0
  simp (maxSteps := 1000000) only [VL,VM,↓VG,reduceIte,reduceCtorEq,zA,zB,zC,zD,zE,zF,zG,zH,zI,zJ, a1]
  ((repeat refine Ws ?_);refine Wt (by first|rfl|simp only [EV,zF,reduceIte]) ?_)
  ((repeat refine Ws ?_);refine Wr ?_)
  simp (maxSteps := 1000000) only [VL,VM,↓VG,reduceIte,reduceCtorEq,zA,zB,zC,zD,zE,zF,zG,zH,zI,zJ]
  (repeat refine Ws ?_)
  refine W_ret ?_
  try simp only [thenQ, blockQ]
  refine own_ret2 rfl rfl rfl ?_ ?_
  ·unfold admitR; rw [e0, if_neg a1]
  ·unfold admitR; rw [e0, if_neg a1]
 have HV := houseErr_ok.1 a1
 have ht0 := HV.t0
 rw [if_pos a1, show inR 0 0 h.ticks = true by rw [inR_true]; omega, Bool.true_and] at e0
 simp (maxSteps := 1000000) only [VL,VM,↓VG,reduceIte,reduceCtorEq,zA,zB,zC,zD,zE,zF,zG,zH,zI,zJ, a1]
 ((repeat refine Ws ?_);refine Wf (by first|rfl|simp only [EV,zF,reduceIte]) ?_)
 ((repeat refine Ws ?_);refine W_skip ?_)
 simp (maxSteps := 1000000) only [VL,VM,↓VG,reduceIte,reduceCtorEq,zA,zB,zC,zD,zE,zF,zG,zH,zI,zJ]
 ((repeat refine Ws ?_);refine Wr ?_)
 simp (maxSteps := 1000000) only [VL,VM,↓VG,reduceIte,reduceCtorEq,zA,zB,zC,zD,zE,zF,zG,zH,zI,zJ]
 apply call_eq (f := 73) (fn := Try.f73) (by kernel_rfl) (by rfl)
 ·exact within_r _ _ _ _
 cases a2 : inR ticks 0 12
 ·rw [a2] at e0
  simp (maxSteps := 1000000) only [VL,VM,↓VG,reduceIte,reduceCtorEq,zA,zB,zC,zD,zE,zF,zG,zH,zI,zJ]
  ((repeat refine Ws ?_);refine Wt (by first|rfl|simp only [EV,zF,reduceIte]) ?_)
  ((repeat refine Ws ?_);refine Wr ?_)
  simp (maxSteps := 1000000) only [VL,VM,↓VG,reduceIte,reduceCtorEq,zA,zB,zC,zD,zE,zF,zG,zH,zI,zJ]
  (repeat refine Ws ?_)
  refine W_ret ?_
  try simp only [thenQ, blockQ]
  refine own_ret2 rfl rfl rfl ?_ ?_
  ·unfold admitR; rw [e0]; rfl
  ·unfold admitR; rw [e0]; rfl
 rw [a2, if_pos rfl] at e0
 simp (maxSteps := 1000000) only [VL,VM,↓VG,reduceIte,reduceCtorEq,zA,zB,zC,zD,zE,zF,zG,zH,zI,zJ]
 ((repeat refine Ws ?_);refine Wf (by first|rfl|simp only [EV,zF,reduceIte]) ?_)
 ((repeat refine Ws ?_);refine W_skip ?_)
 simp (maxSteps := 1000000) only [VL,VM,↓VG,reduceIte,reduceCtorEq,zA,zB,zC,zD,zE,zF,zG,zH,zI,zJ]
 ((repeat refine Ws ?_);refine Wr ?_)
 simp (maxSteps := 1000000) only [VL,VM,↓VG,reduceIte,reduceCtorEq,zA,zB,zC,zD,zE,zF,zG,zH,zI,zJ]
 apply call_eq (f := 78) (fn := Try.f78) (by kernel_rfl) (by rfl)
 ·exact closed_r h closed _ hc hld
 simp (maxSteps := 1000000) only [VL,VM,↓VG,reduceIte,reduceCtorEq,zA,zB,zC,zD,zE,zF,zG,zH,zI,zJ]
 ((repeat refine Ws ?_);refine Wr ?_)
 by_cases a4 : closedErr h.doors.length closed = 0
 rotate_left
 ·simp (maxSteps := 1000000) only [VL,VM,↓VG,reduceIte,reduceCtorEq,zA,zB,zC,zD,zE,zF,zG,zH,zI,zJ, a4]
  ((repeat refine Ws ?_);refine Wt (by first|rfl|simp only [EV,zF,reduceIte]) ?_)
  ((repeat refine Ws ?_);refine Wr ?_)
  simp (maxSteps := 1000000) only [VL,VM,↓VG,reduceIte,reduceCtorEq,zA,zB,zC,zD,zE,zF,zG,zH,zI,zJ]
  (repeat refine Ws ?_)
  refine W_ret ?_
  try simp only [thenQ, blockQ]
  refine own_ret2 rfl rfl rfl ?_ ?_
  ·unfold admitR; rw [e0, if_neg a4]
  ·unfold admitR; rw [e0, if_neg a4]
 rw [a4] at e0
 have ht := inR_true.1 a2
 obtain ⟨n, rfl⟩ : ∃ n : Nat, ticks = (n : Int) := ⟨ticks.toNat, by omega⟩
 simp (maxSteps := 1000000) only [VL,VM,↓VG,reduceIte,reduceCtorEq,zA,zB,zC,zD,zE,zF,zG,zH,zI,zJ, a4]
 ((repeat refine Ws ?_);refine Wf (by first|rfl|simp only [EV,zF,reduceIte]) ?_)
 ((repeat refine Ws ?_);refine W_skip ?_)
 simp (maxSteps := 1000000) only [VL,VM,↓VG,reduceIte,reduceCtorEq,zA,zB,zC,zD,zE,zF,zG,zH,zI,zJ]
 ((repeat refine Ws ?_);refine Wr ?_)
 simp (maxSteps := 1000000) only [VL,VM,↓VG,reduceIte,reduceCtorEq,zA,zB,zC,zD,zE,zF,zG,zH,zI,zJ]
 apply call_eq (f := 94) (fn := Try.f94) (by kernel_rfl) (by rfl)
 ·exact admit_r h HV n closed _ (by omega) hc
 simp (maxSteps := 1000000) only [VL,VM,↓VG,reduceIte,reduceCtorEq,zA,zB,zC,zD,zE,zF,zG,zH,zI,zJ]
 (repeat refine Ws ?_)
 refine W_ret ?_
 try simp only [thenQ, blockQ]
 refine own_ret2 rfl rfl rfl ?_ ?_
 ·unfold admitR; rw [if_pos e0]; rfl
 ·unfold admitR; rw [if_pos e0]
set_option maxHeartbeats 1000000 in
set_option maxRecDepth 8000 in
theorem Safe_r (h : Ho) (at_ ticks : Int) (closed : List Int) (M : Mem) (hl : h.holds.length ≤ 1000000) (hld : h.doors.length ≤ 1000000) (hlc : h.counts.length ≤ 1000000) (hc : closed.length ≤ 1000000) : VC Try.prog 59 [houseV h, vi at_, vi ticks, intsV closed] M (fun r M' => M' = M ∧ r = .tup [vi (safeR h at_ ticks closed).1, vi (safeR h at_ ticks closed).2]) := by
 have e0 : ticksErr h at_ ticks closed = ticksErr h at_ ticks closed := rfl
 conv at e0 => rhs; unfold ticksErr
 refine VC_own' T_ok (f := 59) (fn := Try.f59) (by kernel_rfl) rfl Try.ntmps59 (by rfl) (by rfl) ?_
 ((repeat refine Ws ?_);refine Wr ?_)
 simp (maxSteps := 1000000) only [VL,VM,↓VG,reduceIte,reduceCtorEq,zA,zB,zC,zD,zE,zF,zG,zH,zI,zJ]
 ((repeat refine Ws ?_);refine Wr ?_)
 simp (maxSteps := 1000000) only [VL,VM,↓VG,reduceIte,reduceCtorEq,zA,zB,zC,zD,zE,zF,zG,zH,zI,zJ]
 apply call_eq (f := 25) (fn := Try.f25) (by kernel_rfl) (by rfl)
 ·exact check_r h _ hl hld hlc
 simp (maxSteps := 1000000) only [VL,VM,↓VG,reduceIte,reduceCtorEq,zA,zB,zC,zD,zE,zF,zG,zH,zI,zJ]
 ((repeat refine Ws ?_);refine Wr ?_)
 by_cases a1 : houseErr h = 0
 rotate_left
 ·rw [if_neg a1] at e0
  simp (maxSteps := 1000000) only [VL,VM,↓VG,reduceIte,reduceCtorEq,zA,zB,zC,zD,zE,zF,zG,zH,zI,zJ, a1]
  ((repeat refine Ws ?_);refine Wt (by first|rfl|simp only [EV,zF,reduceIte]) ?_)
  ((repeat refine Ws ?_);refine Wr ?_)
  simp (maxSteps := 1000000) only [VL,VM,↓VG,reduceIte,reduceCtorEq,zA,zB,zC,zD,zE,zF,zG,zH,zI,zJ]
  (repeat refine Ws ?_)
  refine W_ret ?_
  try simp only [thenQ, blockQ]
  refine own_ret2 rfl rfl rfl ?_ ?_
  ·unfold safeR; rw [e0, if_neg a1]
  ·unfold safeR; rw [e0, if_neg a1]
 have HV := houseErr_ok.1 a1
 have ht0 := HV.t0
 rw [if_pos a1] at e0
 simp (maxSteps := 1000000) only [VL,VM,↓VG,reduceIte,reduceCtorEq,zA,zB,zC,zD,zE,zF,zG,zH,zI,zJ, a1]
 ((repeat refine Ws ?_);refine Wf (by first|rfl|simp only [EV,zF,reduceIte]) ?_)
 ((repeat refine Ws ?_);refine W_skip ?_)
 simp (maxSteps := 1000000) only [VL,VM,↓VG,reduceIte,reduceCtorEq,zA,zB,zC,zD,zE,zF,zG,zH,zI,zJ]
 by_cases a2 : (inR at_ 0 h.ticks && inR ticks 0 12) = false
 ·rw [a2] at e0
  (repeat refine Ws ?_)
  refine W_then [(29, vb true)] ⟨M.H ++ [.obj (houseC h)], M.lg⟩ ?_ ?_
  ·((repeat refine Ws ?_);refine Wr ?_)
   simp (maxSteps := 1000000) only [VL,VM,↓VG,reduceIte,reduceCtorEq,zA,zB,zC,zD,zE,zF,zG,zH,zI,zJ]
   apply call_eq (f := 73) (fn := Try.f73) (by kernel_rfl) (by rfl)
   ·exact within_r _ _ _ _
   cases b1 : inR at_ 0 h.ticks
   ·simp (maxSteps := 1000000) only [VL,VM,↓VG,reduceIte,reduceCtorEq,zA,zB,zC,zD,zE,zF,zG,zH,zI,zJ]
    exact ⟨rfl, trivial⟩
   ·rw [b1, Bool.true_and] at a2
    simp (maxSteps := 1000000) only [VL,VM,↓VG,reduceIte,reduceCtorEq,zA,zB,zC,zD,zE,zF,zG,zH,zI,zJ]
    apply call_eq (f := 73) (fn := Try.f73) (by kernel_rfl) (by rfl)
    ·exact within_r _ _ _ _
    simp (maxSteps := 1000000) only [VL,VM,↓VG,reduceIte,reduceCtorEq,zA,zB,zC,zD,zE,zF,zG,zH,zI,zJ, a2]
    exact ⟨rfl, trivial⟩
  intro e' hS
  refine WCode.weak (e' := [(29, vb true)]) ?_ (Sub.ok hS)
  ((repeat refine Ws ?_);refine Wt (by first|rfl|simp only [EV,zF,reduceIte]) ?_)
  ((repeat refine Ws ?_);refine Wr ?_)
  simp (maxSteps := 1000000) only [VL,VM,↓VG,reduceIte,reduceCtorEq,zA,zB,zC,zD,zE,zF,zG,zH,zI,zJ]
  (repeat refine Ws ?_)
  refine W_ret ?_
  try simp only [thenQ, blockQ]
  refine own_ret2 rfl rfl rfl ?_ ?_
  ·unfold safeR; rw [e0]; rfl
  ·unfold safeR; rw [e0]; rfl
 have a3 : inR at_ 0 h.ticks = true ∧ inR ticks 0 12 = true := by
  cases b1 : inR at_ 0 h.ticks <;> cases b2 : inR ticks 0 12 <;> simp [b1, b2] at a2 ⊢
 obtain ⟨a3, a5⟩ := a3
 rw [a3, a5, Bool.and_self, if_pos rfl] at e0
 have h2 := inR_true.1 a3
 have h3 := inR_true.1 a5
 ((repeat refine Ws ?_);refine Wr ?_)
 simp (maxSteps := 1000000) only [VL,VM,↓VG,reduceIte,reduceCtorEq,zA,zB,zC,zD,zE,zF,zG,zH,zI,zJ]
 apply call_eq (f := 73) (fn := Try.f73) (by kernel_rfl) (by rfl)
 ·exact within_r _ _ _ _
 simp (maxSteps := 1000000) only [VL,VM,↓VG,reduceIte,reduceCtorEq,zA,zB,zC,zD,zE,zF,zG,zH,zI,zJ, a3]
 apply call_eq (f := 73) (fn := Try.f73) (by kernel_rfl) (by rfl)
 ·exact within_r _ _ _ _
 simp (maxSteps := 1000000) only [VL,VM,↓VG,reduceIte,reduceCtorEq,zA,zB,zC,zD,zE,zF,zG,zH,zI,zJ, a5]
 ((repeat refine Ws ?_);refine Wf (by first|rfl|simp only [EV,zF,reduceIte]) ?_)
 ((repeat refine Ws ?_);refine W_skip ?_)
 simp (maxSteps := 1000000) only [VL,VM,↓VG,reduceIte,reduceCtorEq,zA,zB,zC,zD,zE,zF,zG,zH,zI,zJ]
 ((repeat refine Ws ?_);refine Wr ?_)
 simp (maxSteps := 1000000) only [VL,VM,↓VG,reduceIte,reduceCtorEq,zA,zB,zC,zD,zE,zF,zG,zH,zI,zJ]
 apply call_eq (f := 78) (fn := Try.f78) (by kernel_rfl) (by rfl)
 ·exact closed_r h closed _ hc hld
 simp (maxSteps := 1000000) only [VL,VM,↓VG,reduceIte,reduceCtorEq,zA,zB,zC,zD,zE,zF,zG,zH,zI,zJ]
 ((repeat refine Ws ?_);refine Wr ?_)
 by_cases a4 : closedErr h.doors.length closed = 0
 rotate_left
 ·simp (maxSteps := 1000000) only [VL,VM,↓VG,reduceIte,reduceCtorEq,zA,zB,zC,zD,zE,zF,zG,zH,zI,zJ, a4]
  ((repeat refine Ws ?_);refine Wt (by first|rfl|simp only [EV,zF,reduceIte]) ?_)
  ((repeat refine Ws ?_);refine Wr ?_)
  simp (maxSteps := 1000000) only [VL,VM,↓VG,reduceIte,reduceCtorEq,zA,zB,zC,zD,zE,zF,zG,zH,zI,zJ]
  (repeat refine Ws ?_)
  refine W_ret ?_
  try simp only [thenQ, blockQ]
  refine own_ret2 rfl rfl rfl ?_ ?_
  ·unfold safeR; rw [e0, if_neg a4]
  ·unfold safeR; rw [e0, if_neg a4]
 rw [a4] at e0
 have eR : safeR h at_ ticks closed = (match insideH h with
  | none => (0, 9)
  | some l => safeV (l.getD at_.toNat ⟨0, 0⟩) (admitV h ticks.toNat closed)) := by unfold safeR; rw [if_pos e0]; cases insideH h <;> rfl
 obtain ⟨n, rfl⟩ : ∃ n : Nat, ticks = (n : Int) := ⟨ticks.toNat, by omega⟩
 obtain ⟨m, rfl⟩ : ∃ m : Nat, at_ = (m : Int) := ⟨at_.toNat, by omega⟩
 simp (maxSteps := 1000000) only [VL,VM,↓VG,reduceIte,reduceCtorEq,zA,zB,zC,zD,zE,zF,zG,zH,zI,zJ, a4]
 ((repeat refine Ws ?_);refine Wf (by first|rfl|simp only [EV,zF,reduceIte]) ?_)
 ((repeat refine Ws ?_);refine W_skip ?_)
 simp (maxSteps := 1000000) only [VL,VM,↓VG,reduceIte,reduceCtorEq,zA,zB,zC,zD,zE,zF,zG,zH,zI,zJ]
 ((repeat refine Ws ?_);refine Wr ?_)
 simp (maxSteps := 1000000) only [VL,VM,↓VG,reduceIte,reduceCtorEq,zA,zB,zC,zD,zE,zF,zG,zH,zI,zJ]
 apply call_eq (f := 66) (fn := Try.f66) (by kernel_rfl) (by rfl)
 ·exact inside_r h HV _
 unfold insR
 cases hi : insideH h with
 | none =>
  rw [hi] at eR
  simp (maxSteps := 1000000) only [VL,VM,↓VG,reduceIte,reduceCtorEq,zA,zB,zC,zD,zE,zF,zG,zH,zI,zJ]
  ((repeat refine Ws ?_);refine Wr ?_)
  simp (maxSteps := 1000000) only [VL,VM,↓VG,reduceIte,reduceCtorEq,zA,zB,zC,zD,zE,zF,zG,zH,zI,zJ]
  ((repeat refine Ws ?_);refine Wt (by first|rfl|simp only [EV,zF,reduceIte]) ?_)
  ((repeat refine Ws ?_);refine Wr ?_)
  simp (maxSteps := 1000000) only [VL,VM,↓VG,reduceIte,reduceCtorEq,zA,zB,zC,zD,zE,zF,zG,zH,zI,zJ]
  (repeat refine Ws ?_)
  refine W_ret ?_
  try simp only [thenQ, blockQ]
  refine own_ret2 rfl rfl rfl ?_ ?_
  ·rw [eR]
  ·rw [eR]
 | some l =>
  rw [hi] at eR
  have hln := insideH_len hi
  simp only [Int.toNat_natCast] at eR
  have hx : l[m]? = some (l.getD m ⟨0, 0⟩) := by rw [List.getD_eq_getElem?_getD, List.getElem?_eq_getElem (by omega)]; rfl
  obtain ⟨x, hxe⟩ : ∃ x, x = l.getD m ⟨0, 0⟩ := ⟨_, rfl⟩
  rw [← hxe] at hx eR
  have hx' := map_at (f := spP) hx
  obtain ⟨av, hav⟩ : ∃ av, av = admitV h n closed := ⟨_, rfl⟩
  rw [← hav] at eR
  unfold safeV at eR
  simp (maxSteps := 1000000) only [VL,VM,↓VG,reduceIte,reduceCtorEq,zA,zB,zC,zD,zE,zF,zG,zH,zI,zJ]
  ((repeat refine Ws ?_);refine Wr ?_)
  simp (maxSteps := 1000000) only [VL,VM,↓VG,reduceIte,reduceCtorEq,zA,zB,zC,zD,zE,zF,zG,zH,zI,zJ]
  ((repeat refine Ws ?_);refine Wf (by first|rfl|simp only [EV,zF,reduceIte]) ?_)
  ((repeat refine Ws ?_);refine W_skip ?_)
  simp (maxSteps := 1000000) only [VL,VM,↓VG,reduceIte,reduceCtorEq,zA,zB,zC,zD,zE,zF,zG,zH,zI,zJ]
  ((repeat refine Ws ?_);refine Wr ?_)
  simp (maxSteps := 1000000) only [VL,VM,↓VG,reduceIte,reduceCtorEq,zA,zB,zC,zD,zE,zF,zG,zH,zI,zJ]
  apply call_eq (f := 94) (fn := Try.f94) (by kernel_rfl) (by rfl)
  ·exact admit_r h HV n closed _ (by omega) hc
  rw [← hav]
  simp (maxSteps := 1000000) only [VL,VM,↓VG,reduceIte,reduceCtorEq,zA,zB,zC,zD,zE,zF,zG,zH,zI,zJ]
  ((repeat refine Ws ?_);refine W_block ?_)
  ((repeat refine Ws ?_);refine Wr ?_)
  by_cases b1 : x.hi ≤ av
  ·have q1 : (x.hi ≤ av) = True := eq_true b1
   rw [if_pos b1] at eR
   simp (maxSteps := 1000000) only [VL,VM,↓VG,reduceIte,reduceCtorEq,zA,zB,zC,zD,zE,zF,zG,zH,zI,zJ, hx', q1]
   ((repeat refine Ws ?_);refine Wt (by first|rfl|simp only [EV,zF,reduceIte]) ?_)
   ((repeat refine Ws ?_);refine Wr ?_)
   simp (maxSteps := 1000000) only [VL,VM,↓VG,reduceIte,reduceCtorEq,zA,zB,zC,zD,zE,zF,zG,zH,zI,zJ]
   (repeat refine Ws ?_)
   refine W_ret ?_
   try simp only [thenQ, blockQ]
   refine own_ret2 rfl rfl rfl ?_ ?_
   ·rw [eR]
   ·rw [eR]
  have q1 : (x.hi ≤ av) = False := eq_false b1
  rw [if_neg b1] at eR
  simp (maxSteps := 1000000) only [VL,VM,↓VG,reduceIte,reduceCtorEq,zA,zB,zC,zD,zE,zF,zG,zH,zI,zJ, hx', q1]
  ((repeat refine Ws ?_);refine Wf (by first|rfl|simp only [EV,zF,reduceIte]) ?_)
  ((repeat refine Ws ?_);refine Wr ?_)
  by_cases b2 : av < x.lo
  ·have q2 : (av < x.lo) = True := eq_true b2
   rw [if_pos b2] at eR
   simp (maxSteps := 1000000) only [VL,VM,↓VG,reduceIte,reduceCtorEq,zA,zB,zC,zD,zE,zF,zG,zH,zI,zJ, hx', q2]
   ((repeat refine Ws ?_);refine Wt (by first|rfl|simp only [EV,zF,reduceIte]) ?_)
   ((repeat refine Ws ?_);refine Wr ?_)
   simp (maxSteps := 1000000) only [VL,VM,↓VG,reduceIte,reduceCtorEq,zA,zB,zC,zD,zE,zF,zG,zH,zI,zJ]
   (repeat refine Ws ?_)
   refine W_ret ?_
   try simp only [thenQ, blockQ]
   refine own_ret2 rfl rfl rfl ?_ ?_
   ·rw [eR]
   ·rw [eR]
  have q2 : (av < x.lo) = False := eq_false b2
  rw [if_neg b2] at eR
  simp (maxSteps := 1000000) only [VL,VM,↓VG,reduceIte,reduceCtorEq,zA,zB,zC,zD,zE,zF,zG,zH,zI,zJ, hx', q2]
  ((repeat refine Ws ?_);refine Wf (by first|rfl|simp only [EV,zF,reduceIte]) ?_)
  ((repeat refine Ws ?_);refine W_skip ?_)
  simp (maxSteps := 1000000) only [VL,VM,↓VG,reduceIte,reduceCtorEq,zA,zB,zC,zD,zE,zF,zG,zH,zI,zJ]
  ((repeat refine Ws ?_);refine Wr ?_)
  simp (maxSteps := 1000000) only [VL,VM,↓VG,reduceIte,reduceCtorEq,zA,zB,zC,zD,zE,zF,zG,zH,zI,zJ]
  (repeat refine Ws ?_)
  refine W_ret ?_
  try simp only [thenQ, blockQ]
  refine own_ret2 rfl rfl rfl ?_ ?_
  ·rw [eR]
  ·rw [eR]
end Go.Proofs.Ytmagiabapakhcaa.Vm
