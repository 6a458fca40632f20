/- A part of the proofs about the chapter of the doors; it states no condition of its own. -/
import Derived.Test.YtekhddlngbppkaaDoorB14
import Derived.Test.YtekhddlngbppkaaDoorB15
import Derived.Test.YtekhddlngbppkaaDoorB16
import Derived.Test.YtekhddlngbppkaaDoorRows
import Derived.WalkKit
import Derived.OpenShut
import Derived.Deep.RegionHeld3
import Derived.Deep.DrawnRows
import Derived.StillTailTactics
set_option linter.unusedVariables false
set_option linter.unusedSimpArgs false
open Int renaming reduceLE → zA, reduceLT → zB, reduceToNat → zC, reduceNeg → zD
open Nat renaming reduceLT → zE, reduceEqDiff → zF, reduceAdd → zG, reduceSub → zH, reduceMul → zI, reduceLeDiff → zJ
/- Spans: sums, signs, and what they have in common, on values. (Vm) -/
namespace Go.Proofs.YtekhddlngbppkaaDoor.Vm
open Go Go.Proofs
theorem v_neg (a : Int) (h : -9223372036854775808 ≤ -a ∧ -a < 9223372036854775808) : vun .neg (vi a) = some (vi (-a)) := by
 have h2 : Op.unary .neg (.int .i64 a) = .pure (.int .i64 (IntKind.i64.wrap (0 - a))) := rfl
 simp only [vun, h2, pureOf, Option.map_some, ofValue]
 rw [Int.zero_sub, IntWalk.i64_in _ (by omega)]
def sumS (l : List Sp) : Sp := ⟨(l.map Sp.lo).sum, (l.map Sp.hi).sum⟩
theorem sumS_take {l : List Sp} {i : Nat} {x : Sp} (h : l[i]? = some x) : sumS (l.take (i + 1)) = ⟨(sumS (l.take i)).lo + x.lo, (sumS (l.take i)).hi + x.hi⟩ := by
 rw [List.take_add_one, h]
 simp [sumS, Option.toList]
structure Sb (x : Sp) : Prop where
 a : -10000000000000 ≤ x.lo
 b : x.lo ≤ 10000000000000
 c : -10000000000000 ≤ x.hi
 d : x.hi ≤ 10000000000000
theorem sumS_bd {l : List Sp} (h : ∀ x ∈ l, Sb x) : -10000000000000 * (l.length : Int) ≤ (sumS l).lo ∧ (sumS l).lo ≤ 10000000000000 * (l.length : Int) ∧ -10000000000000 * (l.length : Int) ≤ (sumS l).hi ∧ (sumS l).hi ≤ 10000000000000 * (l.length : Int) := by
 induction l with
 | nil => simp [sumS]
 | cons x l ih =>
  have ih := ih fun y hy => h y (List.mem_cons_of_mem _ hy)
  obtain ⟨a, b, c, d⟩ := h x (List.mem_cons_self ..)
  simp only [sumS, List.map_cons, List.sum_cons, List.length_cons] at ih ⊢
  push_cast
  omega
theorem sum_v (l : List Sp) (M : Mem) (hl : l.length ≤ 1000) (hb : ∀ x ∈ l, Sb x) : VC Tryd.prog 33 [spsV l] M (fun r M' => M' = M ∧ r = spV (sumS l)) := by
 refine VC_own' T_ok (f := 33) (fn := Tryd.f33) (by kernel_rfl) rfl Tryd.ntmps33 (by rfl) (by rfl) ?_
 ((repeat refine Ws ?_);refine Wr ?_)
 simp (maxSteps := 1000000) only [VL,VM,↓VG,reduceIte,reduceCtorEq,zA,zB,zC,zD,zE,zF,zG,zH,zI,zJ]
 ((repeat refine Ws ?_);refine Wr ?_)
 simp (maxSteps := 1000000) only [VL,VM,↓VG,reduceIte,reduceCtorEq,zA,zB,zC,zD,zE,zF,zG,zH,zI,zJ]
 ((repeat refine Ws ?_);refine Wr ?_)
 simp (maxSteps := 1000000) only [VL,VM,↓VG,reduceIte,reduceCtorEq,zA,zB,zC,zD,zE,zF,zG,zH,zI,zJ]
 ((repeat refine Ws ?_);refine W_block ?_; (repeat refine Ws ?_)); refine W_loopS (fun s : ChkSt => [(0, spsV l), (2, .ptr M.H.length 0), (3, .ptr (M.H.length + 1) 0), (6, spsV l), (7, vi l.length), (8, vi s.i)]) (fun s => ⟨M.H ++ (VObj.obj [vi 0, vi 0] :: VObj.obj [vi (sumS (l.take s.i)).lo, vi (sumS (l.take s.i)).hi] :: s.junk), M.lg⟩) (fun s => l.length - s.i) (fun s => s.i ≤ l.length) ⟨0, []⟩ (Nat.zero_le _) ⟨rfl, rfl, rfl, rfl, rfl, rfl, trivial⟩ rfl ?_
 rintro ⟨i, junk⟩ hi
 simp only at hi
 have k1 : -9223372036854775808 ≤ (i : Int) + 1 ∧ (i : Int) + 1 < 9223372036854775808 := by omega
 ((repeat refine Ws ?_);refine Wr ?_)
 rcases Nat.lt_or_ge i l.length with hlt | hge
 ·have k2 : ((i : Int) < (l.length : Int)) = True := eq_true (by omega)
  have hx : l[i]? = some l[i] := List.getElem?_eq_getElem hlt
  have hx' := map_at (f := spP) hx
  have hmem := List.getElem_mem hlt
  generalize hc : l[i] = x at hx hx' hmem
  have hs := sumS_bd (l := l.take i) fun y hy => hb y (List.mem_of_mem_take hy)
  rw [List.length_take] at hs
  obtain ⟨xa, xb, xc, xd⟩ := hb x hmem
  have ht := sumS_take hx
  have q1 : -9223372036854775808 ≤ (sumS (l.take i)).lo + x.lo ∧ (sumS (l.take i)).lo + x.lo < 9223372036854775808 := by omega
  have q2 : -9223372036854775808 ≤ (sumS (l.take i)).hi + x.hi ∧ (sumS (l.take i)).hi + x.hi < 9223372036854775808 := by omega
  simp (maxSteps := 1000000) only [VL,VM,↓VG,reduceIte,reduceCtorEq,zA,zB,zC,zD,zE,zF,zG,zH,zI,zJ, k2]
  ((repeat refine Ws ?_);refine Wt (by first|rfl|simp only [EV,zF,reduceIte]) ?_)
  ((repeat refine Ws ?_);refine W_skip ?_)
  simp (maxSteps := 1000000) only [VL,VM,↓VG,reduceIte,reduceCtorEq,zA,zB,zC,zD,zE,zF,zG,zH,zI,zJ]
  ((repeat refine Ws ?_);refine W_block ?_)
  ((repeat refine Ws ?_);refine Wr ?_)
  simp (maxSteps := 1000000) only [VL,VM,↓VG,reduceIte,reduceCtorEq,zA,zB,zC,zD,zE,zF,zG,zH,zI,zJ, hx']
  (repeat refine Ws ?_)
  refine W_drawP T_ok [] (by kernel_rfl) (by kernel_rfl) ?_
  generalize hi : mkPlan _ = infs
  cbv at hi
  subst hi
  simp (maxSteps := 1000000) only [VL,VM,↓VG,reduceIte,reduceCtorEq,zA,zB,zC,zD,zE,zF,zG,zH,zI,zJ, q1, q2]
  ((repeat refine Ws ?_);refine Wr ?_)
  simp (maxSteps := 1000000) only [VL,VM,↓VG,reduceIte,reduceCtorEq,zA,zB,zC,zD,zE,zF,zG,zH,zI,zJ, k1]
  refine LoopK.mk ⟨i + 1, junk ++ [VObj.obj [vi x.lo, vi x.hi]]⟩ (by simp only; omega) (by simp only; omega) ⟨rfl, rfl, rfl, rfl, rfl, rfl, trivial⟩ (by simp only [ht])
 ·have k2 : ((i : Int) < (l.length : Int)) = False := eq_false (by omega)
  obtain rfl : i = l.length := by omega
  simp (maxSteps := 1000000) only [VL,VM,↓VG,reduceIte,reduceCtorEq,zA,zB,zC,zD,zE,zF,zG,zH,zI,zJ, k2]
  ((repeat refine Ws ?_);refine Wf (by first|rfl|simp only [EV,zF,reduceIte]) ?_)
  ((repeat refine Ws ?_);refine W_exit ?_)
  simp (maxSteps := 1000000) only [VL,VM,↓VG,reduceIte,reduceCtorEq,zA,zB,zC,zD,zE,zF,zG,zH,zI,zJ]
  ((repeat refine Ws ?_);refine Wr ?_)
  simp (maxSteps := 1000000) only [VL,VM,↓VG,reduceIte,reduceCtorEq,zA,zB,zC,zD,zE,zF,zG,zH,zI,zJ]
  (repeat refine Ws ?_)
  refine W_ret ?_
  try simp only [thenQ, blockQ]
  refine own_ret (vs := [spV (sumS l)]) ?_ rfl rfl ⟨rfl, rfl⟩
  rw [List.take_length]
  simp [Tryd.f33, vresL, vload, t_span, get_cons, hget0, strip1]
  rfl
def negS (x : Sp) : Sp := ⟨-x.hi, -x.lo⟩
theorem less_v (x : Sp) (M : Mem) (hx : Sb x) : VC Tryd.prog 34 [spV x] M (fun r M' => M' = M ∧ r = spV (negS x)) := by
 obtain ⟨a, b, c, d⟩ := hx
 refine VC_own' T_ok (f := 34) (fn := Tryd.f34) (by kernel_rfl) rfl Tryd.ntmps34 (by rfl) (by rfl) ?_
 ((repeat refine Ws ?_);refine Wr ?_)
 simp (maxSteps := 1000000) only [VL,VM,↓VG,reduceIte,reduceCtorEq,zA,zB,zC,zD,zE,zF,zG,zH,zI,zJ]
 ((repeat refine Ws ?_);refine Wr ?_)
 have q1 : -9223372036854775808 ≤ -x.hi ∧ -x.hi < 9223372036854775808 := by omega
 have q2 : -9223372036854775808 ≤ -x.lo ∧ -x.lo < 9223372036854775808 := by omega
 simp (maxSteps := 1000000) only [VL,VM,↓VG,reduceIte,reduceCtorEq,zA,zB,zC,zD,zE,zF,zG,zH,zI,zJ, v_neg, q1, q2]
 (repeat refine Ws ?_)
 refine W_ret ?_
 try simp only [thenQ, blockQ]
 refine own_ret (L := [.obj [vi x.lo, vi x.hi], .obj [vi (-x.hi), vi (-x.lo)]]) (vs := [spV (negS x)]) ?_ rfl rfl ⟨rfl, rfl⟩
 simp [Tryd.f34, vresL, vload, t_span, get_cons, hget, hget0, strip1]
 rfl
def bothS (x y : Sp) : Sp := ⟨max x.lo y.lo, min x.hi y.hi⟩
theorem both_v (x y : Sp) (M : Mem) : VC Tryd.prog 32 [spV x, spV y] M (fun r M' => M' = M ∧ r = spV (bothS x y)) := by
 refine VC_own' T_ok (f := 32) (fn := Tryd.f32) (by kernel_rfl) rfl Tryd.ntmps32 (by rfl) (by rfl) ?_
 ((repeat refine Ws ?_);refine Wr ?_)
 simp (maxSteps := 1000000) only [VL,VM,↓VG,reduceIte,reduceCtorEq,zA,zB,zC,zD,zE,zF,zG,zH,zI,zJ]
 ((repeat refine Ws ?_);refine Wr ?_)
 simp (maxSteps := 1000000) only [VL,VM,↓VG,reduceIte,reduceCtorEq,zA,zB,zC,zD,zE,zF,zG,zH,zI,zJ]
 (repeat refine Ws ?_)
 refine W_ret ?_
 try simp only [thenQ, blockQ]
 refine own_ret (L := [.obj [vi x.lo, vi x.hi], .obj [vi y.lo, vi y.hi], .obj [vi (max x.lo y.lo), vi (min x.hi y.hi)]]) (vs := [spV (bothS x y)]) ?_ rfl rfl ⟨rfl, rfl⟩
 simp [Tryd.f32, vresL, vload, t_span, get_cons, hget, hget0, strip1]
 rfl
end Go.Proofs.YtekhddlngbppkaaDoor.Vm

/- Counts by ticks and doors, plain. -/
namespace Go.Proofs.YtekhddlngbppkaaDoor
def addS (x y : Sp) : Sp := ⟨x.lo + y.lo, x.hi + y.hi⟩
def valS : Option Co → Sp
 | none => ⟨0, 0⟩
 | some c => ⟨c.i.lo - c.o.hi, c.i.hi - c.o.lo⟩
def isKey (t d : Int) (c : Co) : Bool := decide (c.tick = t) && decide (c.door = d)
def kAt (cs : List Co) (t d : Int) : Option Co := cs.reverse.find? (isKey t d)
def psum (cs : List Co) (t : Int) : Nat → Sp
 | 0 => ⟨0, 0⟩
 | d + 1 => addS (psum cs t d) (valS (kAt cs t (d : Int)))
theorem kAt_snoc (cs : List Co) (c : Co) (t d : Int) : kAt (cs ++ [c]) t d = if isKey t d c then some c else kAt cs t d := by
 unfold kAt
 rw [List.reverse_append, List.reverse_cons, List.reverse_nil, List.nil_append, List.singleton_append, List.find?_cons]
 cases isKey t d c <;> rfl
theorem kAt_none {cs : List Co} {c : Co} (h : cs.any (sameKey c) = false) : kAt cs c.tick c.door = none := by
 unfold kAt
 rw [List.find?_eq_none]
 intro b hb
 rw [List.mem_reverse] at hb
 have := List.any_eq_false.1 h b hb
 simpa [sameKey, isKey] using this
theorem psum_snoc {cs : List Co} {c : Co} (h : cs.any (sameKey c) = false) (h0 : 0 ≤ c.door) (t : Int) : ∀ n : Nat, psum (cs ++ [c]) t n = if c.tick = t ∧ c.door < n then addS (psum cs t n) (valS (some c)) else psum cs t n
 | 0 => by rw [if_neg (by omega)]; rfl
 | n + 1 => by
  rw [psum, psum_snoc h h0 t n, psum, kAt_snoc]
  by_cases ht : c.tick = t
  ·by_cases hd : c.door = (n : Int)
   ·have hk : isKey t n c = true := by simp [isKey, ht, hd]
    have hn := kAt_none h
    rw [ht, hd] at hn
    rw [hk, hn, if_neg (show ¬(c.tick = t ∧ c.door < (n : Int)) by omega), if_pos (show c.tick = t ∧ c.door < ((n + 1 : Nat) : Int) by omega), if_pos (show true = true from rfl)]
    simp [addS, valS]
   ·have hk : isKey t n c = false := by simp [isKey, hd]
    rw [hk, if_neg (show ¬ (false = true) by decide)]
    by_cases hl : c.door < (n : Int)
    ·rw [if_pos (show c.tick = t ∧ c.door < (n : Int) from And.intro ht hl), if_pos (show c.tick = t ∧ c.door < ((n + 1 : Nat) : Int) from And.intro ht (by omega))]
     simp only [addS]
     congr 1 <;> omega
    ·rw [if_neg (show ¬(c.tick = t ∧ c.door < (n : Int)) from fun q => hl q.2), if_neg (show ¬(c.tick = t ∧ c.door < ((n + 1 : Nat) : Int)) by omega)]
  ·have hk : isKey t n c = false := by simp [isKey, ht]
   rw [hk, if_neg (show ¬ (false = true) by decide), if_neg (show ¬(c.tick = t ∧ c.door < (n : Int)) from fun q => ht q.1), if_neg (show ¬(c.tick = t ∧ c.door < ((n + 1 : Nat) : Int)) from fun q => ht q.1)]
theorem chg_snoc (cs : List Co) (c : Co) (t : Int) : chg (cs ++ [c]) t = if c.tick = t then addS (chg cs t) (valS (some c)) else chg cs t := by
 unfold chg
 rw [List.filter_append]
 by_cases h : c.tick = t
 ·rw [if_pos h, List.filter_cons_of_pos (by simpa using h)]
  simp [addS, valS]
 ·rw [if_neg h, List.filter_cons_of_neg (by simpa using h)]
  simp
theorem psum_go {n : Nat} (t : Int) : ∀ (cs bs : List Co), (∀ c ∈ cs, 0 ≤ c.door ∧ c.door < n) → keysOk bs cs → psum bs t n = chg bs t → psum (bs ++ cs) t n = chg (bs ++ cs) t
 | [], bs, _, _, h => by simpa using h
 | c :: cs, bs, hd, hk, h => by
  have hc := hd c (by simp)
  have e : bs ++ c :: cs = (bs ++ [c]) ++ cs := by simp
  rw [e]
  refine psum_go t cs (bs ++ [c]) (fun x hx => hd x (by simp [hx])) hk.2 ?_
  rw [psum_snoc hk.1 hc.1, chg_snoc, h]
  by_cases ht : c.tick = t
  ·rw [if_pos ⟨ht, hc.2⟩, if_pos ht]
  ·rw [if_neg (by simp [ht]), if_neg ht]
theorem psum_nil (t : Int) : ∀ n, psum [] t n = ⟨0, 0⟩
 | 0 => rfl
 | n + 1 => by rw [psum, psum_nil t n]; rfl
theorem psum_chg {h : Ho} (V : HV h) (t : Int) : psum h.counts t h.doors.length = chg h.counts t := by
 have := psum_go (n := h.doors.length) t h.counts [] (fun c hc => ⟨(V.counts c hc).d0, (V.counts c hc).d1⟩) V.keys (by rw [psum_nil]; rfl)
 simpa using this
theorem valS_bd {h : Ho} (V : HV h) (t d : Int) : -10000 ≤ (valS (kAt h.counts t d)).lo ∧ (valS (kAt h.counts t d)).lo ≤ 10000 ∧ -10000 ≤ (valS (kAt h.counts t d)).hi ∧ (valS (kAt h.counts t d)).hi ≤ 10000 := by
 cases hk : kAt h.counts t d with
 | none => simp [valS]
 | some c =>
  have hm : c ∈ h.counts := by
   have := List.mem_of_find?_eq_some hk
   exact List.mem_reverse.1 this
  obtain ⟨_, _, _, _, _, ⟨i0, i1, i2⟩, ⟨o0, o1, o2⟩⟩ := V.counts c hm
  simp only [valS]
  omega
theorem psum_bd {h : Ho} (V : HV h) (t : Int) : ∀ n : Nat, -10000 * (n : Int) ≤ (psum h.counts t n).lo ∧ (psum h.counts t n).lo ≤ 10000 * (n : Int) ∧ -10000 * (n : Int) ≤ (psum h.counts t n).hi ∧ (psum h.counts t n).hi ≤ 10000 * (n : Int)
 | 0 => by simp [psum]
 | n + 1 => by
  have h1 := psum_bd V t n
  have h2 := valS_bd V t (n : Int)
  rw [psum, addS]
  push_cast
  omega
theorem chg_bd {h : Ho} (V : HV h) (t : Int) : -50000 ≤ (chg h.counts t).lo ∧ (chg h.counts t).lo ≤ 50000 ∧ -50000 ≤ (chg h.counts t).hi ∧ (chg h.counts t).hi ≤ 50000 := by
 have h1 := psum_bd V t h.doors.length
 rw [psum_chg V] at h1
 have := V.d1
 omega
def outsF (h : Ho) (T t d : Nat) : List Sp := (List.range T).map fun t' : Nat => if t' < t then psum h.counts (t' : Int) h.doors.length else if t' = t then psum h.counts (t' : Int) d else ⟨0, 0⟩
theorem outsF_len (h : Ho) (T t d : Nat) : (outsF h T t d).length = T := by simp [outsF]
theorem outsF_at {h : Ho} {T t d : Nat} (ht : t < T) : (outsF h T t d)[t]? = some (psum h.counts (t : Int) d) := by
 unfold outsF
 rw [List.getElem?_map, List.getElem?_range ht]
 simp
theorem outsF_set {h : Ho} {T t d : Nat} (ht : t < T) : (outsF h T t d).set t (psum h.counts (t : Int) (d + 1)) = outsF h T t (d + 1) := by
 apply List.ext_getElem?
 intro x
 rw [List.getElem?_set]
 by_cases e : t = x
 ·subst e
  rw [if_pos rfl, if_pos (by rw [outsF_len]; exact ht), outsF_at ht]
 ·rw [if_neg e]
  unfold outsF
  simp only [List.getElem?_map]
  rcases Nat.lt_or_ge x T with q | q
  ·rw [List.getElem?_range q, Option.map_some, Option.map_some]
   have e2 : ¬ x = t := fun a => e a.symm
   simp only [if_neg e2]
  ·rw [List.getElem?_eq_none (by simpa using q)]; rfl
theorem outsF_next (h : Ho) (T t : Nat) : outsF h T t h.doors.length = outsF h T (t + 1) 0 := by
 unfold outsF
 refine List.map_congr_left fun x _ => ?_
 rcases Nat.lt_trichotomy x t with q | q | q
 ·rw [if_pos q, if_pos (by omega)]
 ·subst q
  rw [if_neg (by omega), if_pos rfl, if_pos (by omega)]
 ·rw [if_neg (by omega), if_neg (by omega), if_neg (by omega)]
  split <;> rfl
theorem outsF_zero (h : Ho) (T : Nat) : outsF h T 0 0 = List.replicate T ⟨0, 0⟩ := by
 apply List.ext_getElem?
 intro x
 unfold outsF
 simp only [List.getElem?_map]
 rcases Nat.lt_or_ge x T with q | q
 ·rw [List.getElem?_range q, Option.map_some, if_neg (by omega), List.getElem?_replicate, if_pos q]
  split <;> rfl
 ·rw [List.getElem?_eq_none (by simpa using q), List.getElem?_eq_none (by simpa using q)]; rfl
theorem outsF_end {h : Ho} (V : HV h) (T : Nat) : outsF h T T 0 = (List.range T).map fun t' : Nat => chg h.counts (t' : Int) := by
 unfold outsF
 refine List.map_congr_left fun x hx => ?_
 rw [List.mem_range] at hx
 rw [if_pos hx, psum_chg V]
end Go.Proofs.YtekhddlngbppkaaDoor

/- By how many people more may be inside, on values. (Vm) -/
namespace Go.Proofs.YtekhddlngbppkaaDoor.Vm
open Go Go.Proofs
theorem get_app1 {α : Type} {A L : List α} {i : Nat} {o : α} (h : A[i]? = some o) : (A ++ L)[i]? = some o := by
 have hl : i < A.length := by
  rcases Nat.lt_or_ge i A.length with q | q
  ·exact q
  ·rw [List.getElem?_eq_none q] at h; cases h
 rw [List.getElem?_append_left hl]; exact h
structure CtSt where
 t : Nat
 junk : List VObj
set_option maxHeartbeats 1000000 in
set_option maxRecDepth 8000 in
theorem counted_v (h : Ho) (V : HV h) (M : Mem) : VC Tryd.prog 31 [houseV h] M (fun r M' => M' = M ∧ r = spsV ((List.range h.ticks.toNat).map fun t' : Nat => chg h.counts (t' : Int))) := by
 have c1 := V.c1
 have d1 := V.d1
 have t0 := V.t0
 have t1 := V.t1
 refine VC_own' T_ok (f := 31) (fn := Tryd.f31) (by kernel_rfl) rfl Tryd.ntmps31 (by rfl) (by rfl) ?_
 ((repeat refine Ws ?_);refine Wr ?_)
 simp (maxSteps := 1000000) only [VL,VM,↓VG,reduceIte,reduceCtorEq,zA,zB,zC,zD,zE,zF,zG,zH,zI,zJ]
 ((repeat refine Ws ?_);refine Wr ?_)
 simp (maxSteps := 1000000) only [VL,VM,↓VG,reduceIte,reduceCtorEq,zA,zB,zC,zD,zE,zF,zG,zH,zI,zJ]
 ((repeat refine Ws ?_);refine Wr ?_)
 simp (maxSteps := 1000000) only [VL,VM,↓VG,reduceIte,reduceCtorEq,zA,zB,zC,zD,zE,zF,zG,zH,zI,zJ]
 ((repeat refine Ws ?_);refine W_block ?_; (repeat refine Ws ?_)); refine W_loopS (fun s : MapSt => [(0, houseV h), (1, .ptr M.H.length 0), (3, .mp (M.H.length + 1)), (13, cosV h.counts), (14, vi h.counts.length), (15, vi s.i)]) (fun s => ⟨M.H ++ (.obj (houseC h) :: .mpo (.nums 2) s.es :: s.junk), M.lg⟩) (fun s => h.counts.length - s.i) (fun s => s.i ≤ h.counts.length ∧ ∀ t d : Int, assoc [t, d] s.es = (kAt (h.counts.take s.i) t d).map coV) ⟨0, [], []⟩ ⟨Nat.zero_le _, fun t d => rfl⟩ ⟨rfl, rfl, rfl, rfl, rfl, rfl, trivial⟩ rfl ?_
 rintro ⟨i, es, junk⟩ ⟨hi, hes⟩
 simp only at hi hes
 have k1 : -9223372036854775808 ≤ (i : Int) + 1 ∧ (i : Int) + 1 < 9223372036854775808 := by omega
 ((repeat refine Ws ?_);refine Wr ?_)
 rcases Nat.lt_or_ge i h.counts.length with hlt | hge
 ·have k2 : ((i : Int) < (h.counts.length : Int)) = True := eq_true (by omega)
  have hx : h.counts[i]? = some h.counts[i] := List.getElem?_eq_getElem hlt
  generalize h.counts[i] = c at hx
  have hx' := map_at (f := coP) hx
  simp (maxSteps := 1000000) only [VL,VM,↓VG,reduceIte,reduceCtorEq,zA,zB,zC,zD,zE,zF,zG,zH,zI,zJ, k2]
  ((repeat refine Ws ?_);refine Wt (by first|rfl|simp only [EV,zF,reduceIte]) ?_)
  ((repeat refine Ws ?_);refine W_skip ?_)
  simp (maxSteps := 1000000) only [VL,VM,↓VG,reduceIte,reduceCtorEq,zA,zB,zC,zD,zE,zF,zG,zH,zI,zJ]
  ((repeat refine Ws ?_);refine W_block ?_)
  ((repeat refine Ws ?_);refine Wr ?_)
  simp (maxSteps := 1000000) only [VL,VM,↓VG,reduceIte,reduceCtorEq,zA,zB,zC,zD,zE,zF,zG,zH,zI,zJ, hx']
  ((repeat refine Ws ?_);refine Wr ?_)
  simp (maxSteps := 1000000) only [VL,VM,↓VG,reduceIte,reduceCtorEq,zA,zB,zC,zD,zE,zF,zG,zH,zI,zJ]
  ((repeat refine Ws ?_);refine Wr ?_)
  simp (maxSteps := 1000000) only [VL,VM,↓VG,reduceIte,reduceCtorEq,zA,zB,zC,zD,zE,zF,zG,zH,zI,zJ, k1]
  refine LoopK.mk ⟨i + 1, assocSet [c.tick, c.door] (coV c) es, _⟩ (by simp only; omega) ⟨hlt, fun t d => ?_⟩ ⟨rfl, rfl, rfl, rfl, rfl, rfl, trivial⟩ rfl
  simp only
  rw [assoc_set, hes, List.take_add_one, hx, Option.toList_some, kAt_snoc]
  by_cases q : c.tick = t ∧ c.door = d
  ·rw [if_pos (by rw [q.1, q.2]), show isKey t d c = true by simp [isKey, q.1, q.2], if_pos rfl]; rfl
  ·have q2 : isKey t d c = false := by
    unfold isKey
    rw [← Bool.not_eq_true, Bool.and_eq_true, decide_eq_true_eq, decide_eq_true_eq]
    exact q
   rw [if_neg (by simpa using q), q2, if_neg (by decide)]
 have k2 : ((i : Int) < (h.counts.length : Int)) = False := eq_false (by omega)
 have hi3 : i = h.counts.length := by omega
 subst hi3
 rw [List.take_length] at hes
 simp (maxSteps := 1000000) only [VL,VM,↓VG,reduceIte,reduceCtorEq,zA,zB,zC,zD,zE,zF,zG,zH,zI,zJ, k2]
 ((repeat refine Ws ?_);refine Wf (by first|rfl|simp only [EV,zF,reduceIte]) ?_)
 ((repeat refine Ws ?_);refine W_exit ?_)
 simp (maxSteps := 1000000) only [VL,VM,↓VG,reduceIte,reduceCtorEq,zA,zB,zC,zD,zE,zF,zG,zH,zI,zJ]
 have q1 : (h.ticks.toNat * 16 ≤ 140737488355328) = True := eq_true (by omega)
 have q2 : (h.ticks.toNat ≤ 9223372036854775807) = True := eq_true (by omega)
 obtain ⟨H1, hH1⟩ : ∃ H1, H1 = M.H ++ (VObj.obj (houseC h) :: .mpo (.nums 2) es :: junk) := ⟨_, rfl⟩
 have hh0 : H1[M.H.length]? = some (.obj (houseC h)) := by rw [hH1, hget0]; rfl
 have hh : ∀ L, (H1 ++ L)[M.H.length]? = some (.obj (houseC h)) := fun L => get_app1 hh0
 have hm : ∀ L, (H1 ++ L)[M.H.length + 1]? = some (.mpo (.nums 2) es) := fun L => get_app1 (by rw [hH1, hget]; rfl)
 have hend : ∀ L, H1 ++ L = M.H ++ (VObj.obj (houseC h) :: .mpo (.nums 2) es :: (junk ++ L)) := fun L => by rw [hH1]; simp
 rw [← hH1]
 clear k1 k2 hge hi
 ((repeat refine Ws ?_);refine Wr ?_)
 simp (maxSteps := 1000000) only [VL,VM,↓VG,reduceIte,reduceCtorEq,zA,zB,zC,zD,zE,zF,zG,zH,zI,zJ, hh0, t0, q1, q2, spCs_rep]
 rw [← outsF_zero h]
 ((repeat refine Ws ?_);refine Wr ?_)
 simp (maxSteps := 1000000) only [VL,VM,↓VG,reduceIte,reduceCtorEq,zA,zB,zC,zD,zE,zF,zG,zH,zI,zJ]
 obtain ⟨T', hT⟩ : ∃ T', T' = h.ticks.toNat := ⟨_, rfl⟩
 rw [← hT]
 ((repeat refine Ws ?_);refine W_block ?_; (repeat refine Ws ?_)); refine W_loopS (fun s : CtSt => [(0, houseV h), (1, .ptr M.H.length 0), (3, .mp (M.H.length + 1)), (6, .bf H1.length 0 T' 2), (31, vi T'), (32, vi s.t)]) (fun s => ⟨H1 ++ (.obj (spCs (outsF h T' s.t 0)) :: s.junk), M.lg⟩) (fun s => T' - s.t) (fun s => s.t ≤ T') ⟨0, []⟩ (Nat.zero_le _) ⟨rfl, rfl, rfl, rfl, rfl, rfl, trivial⟩ rfl ?_
 rintro ⟨t, junk2⟩ hi
 simp only at hi
 have k1 : -9223372036854775808 ≤ (t : Int) + 1 ∧ (t : Int) + 1 < 9223372036854775808 := by omega
 ((repeat refine Ws ?_);refine Wr ?_)
 rcases Nat.lt_or_ge t T' with hlt | hge
 ·have k2 : ((t : Int) < (T' : Int)) = True := eq_true (by omega)
  simp (maxSteps := 1000000) only [VL,VM,↓VG,reduceIte,reduceCtorEq,zA,zB,zC,zD,zE,zF,zG,zH,zI,zJ, k2]
  ((repeat refine Ws ?_);refine Wt (by first|rfl|simp only [EV,zF,reduceIte]) ?_)
  ((repeat refine Ws ?_);refine W_skip ?_)
  simp (maxSteps := 1000000) only [VL,VM,↓VG,reduceIte,reduceCtorEq,zA,zB,zC,zD,zE,zF,zG,zH,zI,zJ]
  ((repeat refine Ws ?_);refine W_block ?_)
  ((repeat refine Ws ?_);refine Wr ?_)
  simp (maxSteps := 1000000) only [VL,VM,↓VG,reduceIte,reduceCtorEq,zA,zB,zC,zD,zE,zF,zG,zH,zI,zJ]
  ((repeat refine Ws ?_);refine Wr ?_)
  simp (maxSteps := 1000000) only [VL,VM,↓VG,reduceIte,reduceCtorEq,zA,zB,zC,zD,zE,zF,zG,zH,zI,zJ, hh]
  ((repeat refine Ws ?_);refine W_block ?_; (repeat refine Ws ?_)); refine W_loopS (fun s : CtSt => [(0, houseV h), (1, .ptr M.H.length 0), (3, .mp (M.H.length + 1)), (6, .bf H1.length 0 T' 2), (31, vi T'), (32, vi t), (7, vi t), (37, vi h.doors.length), (38, vi s.t)]) (fun s => ⟨H1 ++ (.obj (spCs (outsF h T' t s.t)) :: s.junk), M.lg⟩) (fun s => h.doors.length - s.t) (fun s => s.t ≤ h.doors.length) ⟨0, junk2⟩ (Nat.zero_le _) ⟨rfl, rfl, rfl, rfl, rfl, rfl, rfl, rfl, rfl, trivial⟩ rfl ?_
  rintro ⟨d, junk3⟩ hi2
  simp only at hi2
  have j1 : -9223372036854775808 ≤ (d : Int) + 1 ∧ (d : Int) + 1 < 9223372036854775808 := by omega
  ((repeat refine Ws ?_);refine Wr ?_)
  rcases Nat.lt_or_ge d h.doors.length with hlt2 | hge2
  ·have j2 : ((d : Int) < (h.doors.length : Int)) = True := eq_true (by omega)
   have hlk := hes (t : Int) (d : Int)
   have hset := outsF_set (h := h) (d := d) hlt
   rw [psum] at hset
   simp (maxSteps := 1000000) only [VL,VM,↓VG,reduceIte,reduceCtorEq,zA,zB,zC,zD,zE,zF,zG,zH,zI,zJ, j2]
   ((repeat refine Ws ?_);refine Wt (by first|rfl|simp only [EV,zF,reduceIte]) ?_)
   ((repeat refine Ws ?_);refine W_skip ?_)
   simp (maxSteps := 1000000) only [VL,VM,↓VG,reduceIte,reduceCtorEq,zA,zB,zC,zD,zE,zF,zG,zH,zI,zJ]
   ((repeat refine Ws ?_);refine W_block ?_)
   ((repeat refine Ws ?_);refine Wr ?_)
   simp (maxSteps := 1000000) only [VL,VM,↓VG,reduceIte,reduceCtorEq,zA,zB,zC,zD,zE,zF,zG,zH,zI,zJ]
   cases hk : kAt h.counts (t : Int) (d : Int) with
   | none =>
    rw [hk] at hlk hset
    have hz : addS (psum h.counts (t : Int) d) (valS none) = psum h.counts (t : Int) d := by simp [addS, valS]
    rw [hz] at hset
    have hself : outsF h T' t (d + 1) = outsF h T' t d := by
     rw [← hset]
     apply List.ext_getElem?
     intro x
     rw [List.getElem?_set]
     by_cases e : t = x
     ·subst e
      rw [if_pos rfl, if_pos (by rw [outsF_len]; exact hlt), outsF_at hlt]
     ·rw [if_neg e]
    rw [Option.map_none] at hlk
    ((repeat refine Ws ?_);refine Wr ?_)
    simp (maxSteps := 1000000) only [VL,VM,↓VG,reduceIte,reduceCtorEq,zA,zB,zC,zD,zE,zF,zG,zH,zI,zJ, hm, hlk]
    ((repeat refine Ws ?_);refine Wr ?_)
    simp (maxSteps := 1000000) only [VL,VM,↓VG,reduceIte,reduceCtorEq,zA,zB,zC,zD,zE,zF,zG,zH,zI,zJ]
    ((repeat refine Ws ?_);refine Wf (by first|rfl|simp only [EV,zF,reduceIte]) ?_)
    ((repeat refine Ws ?_);refine W_skip ?_)
    simp (maxSteps := 1000000) only [VL,VM,↓VG,reduceIte,reduceCtorEq,zA,zB,zC,zD,zE,zF,zG,zH,zI,zJ]
    ((repeat refine Ws ?_);refine Wr ?_)
    simp (maxSteps := 1000000) only [VL,VM,↓VG,reduceIte,reduceCtorEq,zA,zB,zC,zD,zE,zF,zG,zH,zI,zJ, j1]
    refine LoopK.mk ⟨d + 1, junk3 ++ [.obj [vi 0, vi 0, vi 0, vi 0, vi 0, vi 0]]⟩ (by simp only; omega) hlt2 ⟨rfl, rfl, rfl, rfl, rfl, rfl, rfl, rfl, rfl, trivial⟩ (by simp only [hself])
   | some c =>
    rw [hk] at hlk hset
    rw [Option.map_some] at hlk
    have hcm : c ∈ h.counts := List.mem_reverse.1 (List.mem_of_find?_eq_some hk)
    have hcv := V.counts c hcm
    obtain ⟨i0, i1, i2⟩ := hcv.i
    obtain ⟨o0, o1, o2⟩ := hcv.o
    have hpb := psum_bd V (t : Int) d
    have sb1 : Sb (psum h.counts (t : Int) d) := ⟨by omega, by omega, by omega, by omega⟩
    have sb2 : Sb c.i := ⟨by omega, by omega, by omega, by omega⟩
    have sb3 : Sb c.o := ⟨by omega, by omega, by omega, by omega⟩
    have sb4 : Sb (negS c.o) := ⟨by simp only [negS]; omega, by simp only [negS]; omega, by simp only [negS]; omega, by simp only [negS]; omega⟩
    have hsm : sumS [psum h.counts (t : Int) d, c.i, negS c.o] = addS (psum h.counts (t : Int) d) (valS (some c)) := by
     simp only [sumS, negS, addS, valS, List.map_cons, List.map_nil, List.sum_cons, List.sum_nil]
     congr 1 <;> omega
    have s1 : (t < T') = True := eq_true hlt
    have s2 : (t * 2 + 2 ≤ (spCs (outsF h T' t d)).length) = True := eq_true (by rw [spCs_len, outsF_len]; omega)
    have s3 := spCs_at (outsF_at (h := h) (d := d) hlt)
    have c4 := spCs_set (l := outsF h T' t d) (k := t) (addS (psum h.counts (t : Int) d) (valS (some c))) (by rw [outsF_len]; exact hlt)
    rw [hset] at c4
    ((repeat refine Ws ?_);refine Wr ?_)
    simp (maxSteps := 1000000) only [VL,VM,↓VG,reduceIte,reduceCtorEq,zA,zB,zC,zD,zE,zF,zG,zH,zI,zJ, hm, hlk]
    ((repeat refine Ws ?_);refine Wr ?_)
    simp (maxSteps := 1000000) only [VL,VM,↓VG,reduceIte,reduceCtorEq,zA,zB,zC,zD,zE,zF,zG,zH,zI,zJ]
    ((repeat refine Ws ?_);refine Wt (by first|rfl|simp only [EV,zF,reduceIte]) ?_)
    (repeat refine Ws ?_)
    refine W_drawP T_ok [] (by kernel_rfl) (by kernel_rfl) ?_
    generalize hi : mkPlan _ = infs
    cbv at hi
    subst hi
    simp (maxSteps := 1000000) only [VL,VM,↓VG,reduceIte,reduceCtorEq,zA,zB,zC,zD,zE,zF,zG,zH,zI,zJ, s1, s2, s3]
    apply call_d (f := 34) (fn := Tryd.f34) (by kernel_rfl) (by rfl)
    ·exact less_v c.o _ sb3
    simp (maxSteps := 1000000) only [VL,VM,↓VG,reduceIte,reduceCtorEq,zA,zB,zC,zD,zE,zF,zG,zH,zI,zJ, s1, s2, s3]
    apply call_d (f := 33) (fn := Tryd.f33) (by kernel_rfl) (by rfl)
    ·exact sum_v [psum h.counts (t : Int) d, c.i, negS c.o] _ (by simp) (by
     intro x hx
     simp only [List.mem_cons, List.mem_nil_iff, or_false] at hx
     rcases hx with rfl | rfl | rfl
     ·exact sb1
     ·exact sb2
     ·exact sb4)
    simp (maxSteps := 1000000) only [VL,VM,↓VG,reduceIte,reduceCtorEq,zA,zB,zC,zD,zE,zF,zG,zH,zI,zJ, s1, s2, s3, hsm, c4]
    ((repeat refine Ws ?_);refine Wr ?_)
    simp (maxSteps := 1000000) only [VL,VM,↓VG,reduceIte,reduceCtorEq,zA,zB,zC,zD,zE,zF,zG,zH,zI,zJ, j1]
    refine LoopK.mk ⟨d + 1, junk3 ++ [.obj [vi c.tick, vi c.door, vi c.i.lo, vi c.i.hi, vi c.o.lo, vi c.o.hi]]⟩ (by simp only; omega) hlt2 ⟨rfl, rfl, rfl, rfl, rfl, rfl, rfl, rfl, rfl, trivial⟩ rfl
  have j2 : ((d : Int) < (h.doors.length : Int)) = False := eq_false (by omega)
  have hi3 : d = h.doors.length := by omega
  subst hi3
  simp (maxSteps := 1000000) only [VL,VM,↓VG,reduceIte,reduceCtorEq,zA,zB,zC,zD,zE,zF,zG,zH,zI,zJ, j2]
  ((repeat refine Ws ?_);refine Wf (by first|rfl|simp only [EV,zF,reduceIte]) ?_)
  ((repeat refine Ws ?_);refine W_exit ?_)
  simp (maxSteps := 1000000) only [VL,VM,↓VG,reduceIte,reduceCtorEq,zA,zB,zC,zD,zE,zF,zG,zH,zI,zJ]
  ((repeat refine Ws ?_);refine Wr ?_)
  simp (maxSteps := 1000000) only [VL,VM,↓VG,reduceIte,reduceCtorEq,zA,zB,zC,zD,zE,zF,zG,zH,zI,zJ, k1]
  refine LoopK.mk ⟨t + 1, junk3⟩ (by simp only; omega) hlt ⟨rfl, rfl, rfl, rfl, rfl, rfl, trivial⟩ (by simp only [outsF_next])
 have k2 : ((t : Int) < (T' : Int)) = False := eq_false (by omega)
 have hi3 : t = T' := by omega
 subst hi3
 simp (maxSteps := 1000000) only [VL,VM,↓VG,reduceIte,reduceCtorEq,zA,zB,zC,zD,zE,zF,zG,zH,zI,zJ, k2]
 ((repeat refine Ws ?_);refine Wf (by first|rfl|simp only [EV,zF,reduceIte]) ?_)
 ((repeat refine Ws ?_);refine W_exit ?_)
 simp (maxSteps := 1000000) only [VL,VM,↓VG,reduceIte,reduceCtorEq,zA,zB,zC,zD,zE,zF,zG,zH,zI,zJ]
 ((repeat refine Ws ?_);refine Wr ?_)
 simp (maxSteps := 1000000) only [VL,VM,↓VG,reduceIte,reduceCtorEq,zA,zB,zC,zD,zE,zF,zG,zH,zI,zJ]
 rw [hend]
 (repeat refine Ws ?_)
 refine W_ret ?_
 try simp only [thenQ, blockQ]
 refine own_ret1 rfl ?_ (by rfl)
 simp only [get_cons, frz, vtup, Nat.reduceEqDiff, if_true, if_false, reduceIte]
 rw [← outsF_end V]
 have := frz_spans (n0 := M.H.length) (id := H1.length) (H := M.H ++ (VObj.obj (houseC h) :: .mpo (.nums 2) es :: (junk ++ (VObj.obj (spCs (outsF h t t 0)) :: junk2)))) (l := outsF h t t 0) (by rw [hH1]; simp) (by rw [← hend, List.getElem?_append_right (Nat.le_refl _), Nat.sub_self]; rfl)
 rw [outsF_len] at this
 exact this
end Go.Proofs.YtekhddlngbppkaaDoor.Vm

/- Who may be inside, plain facts. -/
namespace Go.Proofs.YtekhddlngbppkaaDoor
def Cb (C : Nat → Sp) : Prop := ∀ t, -50000 ≤ (C t).lo ∧ (C t).lo ≤ 50000 ∧ -50000 ≤ (C t).hi ∧ (C t).hi ≤ 50000
theorem fwd_bd {first : Sp} {C : Nat → Sp} (hf : SpOk first) (hC : Cb C) : ∀ t : Nat, 0 ≤ (fwd first C t).lo ∧ (fwd first C t).lo ≤ 10000 + 50000 * (t : Int) ∧ -50000 * (t : Int) ≤ (fwd first C t).hi ∧ (fwd first C t).hi ≤ 10000 + 50000 * (t : Int)
 | 0 => by
  obtain ⟨a, b, c⟩ := hf
  simp only [fwd]
  omega
 | t + 1 => by
  have h1 := fwd_bd hf hC t
  have h2 := hC t
  rw [fwd, nxt]
  push_cast
  omega
theorem bwd_bd {first : Sp} {C : Nat → Sp} (hf : SpOk first) (hC : Cb C) (T : Nat) : ∀ k : Nat, k ≤ T → -50000 * ((T : Int) + k) ≤ (bwd first C T k).lo ∧ (bwd first C T k).lo ≤ 10000 + 50000 * ((T : Int) + k) ∧ -50000 * ((T : Int) + k) ≤ (bwd first C T k).hi ∧ (bwd first C T k).hi ≤ 10000 + 50000 * ((T : Int) + k)
 | 0, _ => by
  have := fwd_bd hf hC T
  simp only [bwd]
  omega
 | k + 1, hk => by
  have h1 := bwd_bd hf hC T k (by omega)
  have h2 := hC (T - (k + 1))
  have h3 := fwd_bd hf hC (T - (k + 1))
  have h4 : ((T - (k + 1) : Nat) : Int) ≤ (T : Int) := by omega
  simp only [bwd]
  push_cast at *
  omega
def fwdL (first : Sp) (C : Nat → Sp) (i : Nat) : List Sp := (List.range (i + 1)).map (fwd first C)
theorem fwdL_len (first : Sp) (C : Nat → Sp) (i : Nat) : (fwdL first C i).length = i + 1 := by simp [fwdL]
theorem fwdL_snoc (first : Sp) (C : Nat → Sp) (i : Nat) : fwdL first C i ++ [fwd first C (i + 1)] = fwdL first C (i + 1) := by
 unfold fwdL
 rw [List.range_succ (n := i + 1), List.map_append]; rfl
theorem fwdL_at {first : Sp} {C : Nat → Sp} {i t : Nat} (h : t ≤ i) : (fwdL first C i)[t]? = some (fwd first C t) := by
 unfold fwdL
 rw [List.getElem?_map, List.getElem?_range (by omega)]; rfl
def bwL (first : Sp) (C : Nat → Sp) (T j : Nat) : List Sp := (List.range (T + 1)).map fun t => if T ≤ t + j then bwd first C T (T - t) else fwd first C t
theorem bwL_len (first : Sp) (C : Nat → Sp) (T j : Nat) : (bwL first C T j).length = T + 1 := by simp [bwL]
theorem bwL_zero (first : Sp) (C : Nat → Sp) (T : Nat) : bwL first C T 0 = fwdL first C T := by
 unfold bwL fwdL
 refine List.map_congr_left fun t ht => ?_
 rw [List.mem_range] at ht
 by_cases e : T ≤ t + 0
 ·rw [if_pos e]
  obtain rfl : t = T := by omega
  rw [Nat.sub_self]; rfl
 ·rw [if_neg e]
theorem bwL_end (first : Sp) (C : Nat → Sp) (T : Nat) : bwL first C T T = insideL first C T := by
 unfold bwL insideL
 refine List.map_congr_left fun t ht => ?_
 rw [if_pos (by omega)]
theorem bwL_at {first : Sp} {C : Nat → Sp} {T j t : Nat} (ht : t ≤ T) : (bwL first C T j)[t]? = some (if T ≤ t + j then bwd first C T (T - t) else fwd first C t) := by
 unfold bwL
 rw [List.getElem?_map, List.getElem?_range (by omega)]; rfl
theorem bwL_set {first : Sp} {C : Nat → Sp} {T j m : Nat} (hm : m + j + 1 = T) : (bwL first C T j).set m (bwd first C T (j + 1)) = bwL first C T (j + 1) := by
 apply List.ext_getElem?
 intro x
 rw [List.getElem?_set]
 by_cases e : m = x
 ·subst e
  rw [if_pos rfl, if_pos (by rw [bwL_len]; omega), bwL_at (by omega), if_pos (by omega), show T - m = j + 1 by omega]
 ·rw [if_neg e]
  rcases Nat.lt_or_ge T x with q | q
  ·rw [List.getElem?_eq_none (by rw [bwL_len]; omega), List.getElem?_eq_none (by rw [bwL_len]; omega)]
  ·rw [bwL_at q, bwL_at q]
   by_cases e2 : T ≤ x + j
   ·rw [if_pos e2, if_pos (by omega)]
   ·rw [if_neg e2, if_neg (by omega)]
theorem chg_Cb {h : Ho} (V : HV h) : Cb fun t => chg h.counts (t : Int) := fun t => chg_bd V (t : Int)
theorem bad_false {first : Sp} {C : Nat → Sp} {T : Nat} (h : ∀ t, t < T → ¬ (fwd first C (t + 1)).hi < (fwd first C (t + 1)).lo) : bad first C T = false := by
 unfold bad
 rw [List.any_eq_false]
 intro t ht
 rw [List.mem_range] at ht
 simpa using h t ht
theorem bad_true {first : Sp} {C : Nat → Sp} {T t : Nat} (ht : t < T) (h : (fwd first C (t + 1)).hi < (fwd first C (t + 1)).lo) : bad first C T = true := by
 unfold bad
 rw [List.any_eq_true]
 exact ⟨t, by rw [List.mem_range]; exact ht, by simpa using h⟩
end Go.Proofs.YtekhddlngbppkaaDoor

/- Dice: what they show is within bounds; they change themselves alone. -/
namespace Go.Proofs.YtekhddlngbppkaaDoor
open Go.RowKit
attribute [local go_sem ↓] Go.wp_at_zero Go.wp_at_succ

end Go.Proofs.YtekhddlngbppkaaDoor

/- Dice, on values. (Vm) -/
namespace Go.Proofs.YtekhddlngbppkaaDoor.Vm
open Go Go.Proofs
section
variable {H0 : List VObj} {d : Nat} (hd : d < H0.length) {u : Int} {L : List VObj}
include hd
end
end Go.Proofs.YtekhddlngbppkaaDoor.Vm

/- Dice, on values, part 2. (Vm) -/
namespace Go.Proofs.YtekhddlngbppkaaDoor.Vm
open Go Go.Proofs
section
variable {H0 : List VObj} {d : Nat} (hd : d < H0.length) {u : Int} {L : List VObj}
include hd
end
end Go.Proofs.YtekhddlngbppkaaDoor.Vm

/- Dice, on values, part 3. (Vm) -/
namespace Go.Proofs.YtekhddlngbppkaaDoor.Vm
open Go Go.Proofs
end Go.Proofs.YtekhddlngbppkaaDoor.Vm

/- Dice made of numbers, places, loads, on values. (Vm) -/
namespace Go.Proofs.YtekhddlngbppkaaDoor.Vm
open Go Go.Proofs
theorem VC_esc {P : Program} {T : Tab} (hT : TabOk P T) {f : Nat} {fn : Func} {c : Code} {nt : Nat} {args : List VV} {M : Mem} {Q : VV → Mem → Prop} (hf : T.fn f = some fn) (hb : fn.body = some c) (hnt : fn.ntmps = nt) (hn : Nat.ble args.length nt = true) (hk : T.keeps f = false)
  (h : WCode P ⟨f, none, nt⟩ c (zipEnv 0 args) M [] (fun ex e M' D => (ex = .normal ∨ ex = .ret) ∧ D = [] ∧ ∃ vs, vresL T e M' fn.results.toList = some vs ∧ (∃ x ∈ refs (frz M.H.length M'.H (vtup vs)), M.H.length ≤ x) ∧ Q (vtup vs) M')) : VC P f args M Q := by
 subst hnt
 refine VC_fn hT hf hb (Nat.le_of_ble_eq_true hn) fun hlg => h.mono ?_
 rintro ex e M' D ⟨hex, rfl, vs, h1, ⟨x, hx, hx2⟩, h3⟩
 have key : retQ T f M.H.length fn Q .ret e M' [] := by
  simp only [retQ, vkill]
  have hM : ({ M' with H := M'.H } : Mem) = M' := rfl
  rw [hM, h1]
  simp only
  have q3 : ((refs (frz M.H.length M'.H (vtup vs))).all (Nat.blt · M.H.length)) = false := by
   rw [List.all_eq_false]
   exact ⟨x, hx, by rw [Nat.blt_eq]; omega⟩
  unfold vfinish
  rw [hk, q3, Bool.and_false]
  exact h3
 rcases hex with rfl | rfl
 ·exact key
 ·exact key
end Go.Proofs.YtekhddlngbppkaaDoor.Vm
