/- A part of the proofs about the chapter of the doors; it states no condition of its own. -/
import Derived.Test.YtekhddlngbppkaaDoorB21
set_option linter.unusedVariables false
set_option linter.unusedSimpArgs false
open Int renaming reduceLE → zA, reduceLT → zB, reduceToNat → zC, reduceNeg → zD
open Nat renaming reduceLT → zE, reduceEqDiff → zF, reduceAdd → zG, reduceSub → zH, reduceMul → zI, reduceLeDiff → zJ
/- How many people are safe, on values. (Vm) -/
namespace Go.Proofs.YtekhddlngbppkaaDoor
def comeS (s j : Nat) : Int := if s.testBit j then 40000 else 0
def heldS (s : Nat) : Nat → List Int → Int
 | _, [] => 0
 | i, n :: l => (if s.testBit i then n else 0) + heldS s (i + 1) l
noncomputable def outS (h : Ho) (ticks : Nat) (closed : List Int) (s : Nat) : Int := Vm.leaveV h.holds.length h.doors ticks closed (comeS s)
noncomputable def bestS (h : Ho) (ticks : Nat) (closed : List Int) (b : Int) (s : Nat) : Int := if outS h ticks closed s < heldS s 0 h.holds then min b (outS h ticks closed s) else b
noncomputable def admitV (h : Ho) (ticks : Nat) (closed : List Int) : Int := (List.range (2 ^ h.holds.length)).foldl (bestS h ticks closed) h.holds.sum
def ticksErr (h : Ho) (at_ ticks : Int) (closed : List Int) : Int :=
 if houseErr h = 0 then (if inR at_ 0 h.ticks && inR ticks 0 12 then closedErr h.doors.length closed else 1) else houseErr h
noncomputable def admitR (h : Ho) (ticks : Int) (closed : List Int) : Int × Int :=
 if ticksErr h 0 ticks closed = 0 then (admitV h ticks.toNat closed, 0) else (0, ticksErr h 0 ticks closed)
theorem heldS_snoc (s : Nat) : ∀ (l : List Int) (i : Nat) (n : Int), heldS s i (l ++ [n]) = heldS s i l + (if s.testBit (i + l.length) then n else 0)
 | [], i, n => by simp [heldS]
 | m :: l, i, n => by
  rw [List.cons_append, heldS, heldS, heldS_snoc s l (i + 1) n, List.length_cons, show i + (l.length + 1) = i + 1 + l.length by omega]
  omega
theorem heldS_bd (s : Nat) : ∀ (l : List Int) (i : Nat), (∀ n ∈ l, 0 ≤ n ∧ n ≤ 10000) → 0 ≤ heldS s i l ∧ heldS s i l ≤ 10000 * (l.length : Int)
 | [], i, _ => by simp [heldS]
 | m :: l, i, h => by
  have h1 := h m (by simp)
  have h2 := heldS_bd s l (i + 1) fun n hn => h n (by simp [hn])
  rw [heldS, List.length_cons]
  push_cast
  split <;> omega
theorem sum_bd : ∀ (l : List Int), (∀ n ∈ l, 0 ≤ n ∧ n ≤ 10000) → 0 ≤ l.sum ∧ l.sum ≤ 10000 * (l.length : Int)
 | [], _ => by simp
 | m :: l, h => by
  have h1 := h m (by simp)
  have h2 := sum_bd l fun n hn => h n (by simp [hn])
  rw [List.sum_cons, List.length_cons]
  push_cast
  omega
end Go.Proofs.YtekhddlngbppkaaDoor
namespace Go.Proofs.YtekhddlngbppkaaDoor.Vm
open Go Go.Proofs
abbrev hv (n : Int) : VV := .p (.int .u8 n)
def wrH (a : Int) : Int := IntKind.u8.wrap a
def andH (a b : Int) : Int := IntKind.u8.wrap (BitVec.ofInt 8 a &&& BitVec.ofInt 8 b).toNat
theorem h_add (t : Nat) (a b : Int) : vbin T .add t (hv a) (hv b) = some (hv (wrH (a + b))) := rfl
theorem h_and (t : Nat) (a b : Int) : vbin T .and t (hv a) (hv b) = some (hv (andH a b)) := rfl
theorem h_lss (t : Nat) (a b : Int) : vbin T .lss t (hv a) (hv b) = some (vb (decide (a < b))) := rfl
theorem h_neq (t : Nat) (a b : Int) : vbin T .neq t (hv a) (hv b) = some (vb (!decide (a = b))) := rfl
theorem h_shl (t : Nat) (n : Nat) (hn : n ≤ 4) : vbin T .shl t (hv 1) (vi n) = some (hv ((2 ^ n : Nat) : Int)) := by
 rcases n with _ | _ | _ | _ | _ | n
 ·rfl
 ·rfl
 ·rfl
 ·rfl
 ·rfl
 ·omega
theorem h_bit (s i : Nat) (hs : s < 16) (hi : i < 4) : (!decide (andH (s : Int) ((2 ^ i : Nat) : Int) = 0)) = s.testBit i := by
 have : ∀ s : Fin 16, ∀ i : Fin 4, (!decide (andH (s.val : Int) ((2 ^ i.val : Nat) : Int) = 0)) = Nat.testBit s.val i.val := by decide
 exact this ⟨s, hs⟩ ⟨i, hi⟩
theorem h_wr (s : Nat) (hs : s < 16) : wrH ((s : Int) + 1) = ((s + 1 : Nat) : Int) := by
 have : ∀ s : Fin 16, wrH ((s.val : Int) + 1) = ((s.val + 1 : Nat) : Int) := by decide
 exact this ⟨s, hs⟩
theorem has_v (s i : Nat) (M : Mem) (hs : s < 16) (hi : i < 4) : VC Tryd.prog 45 [hv s, vi i] M (fun r M' => M' = M ∧ r = vb (s.testBit i)) := by
 have hx : [hv 1, hv 2, hv 4, hv 8][i]? = some (hv ((2 ^ i : Nat) : Int)) := by
  rcases i with _ | _ | _ | _ | i
  ·rfl
  ·rfl
  ·rfl
  ·rfl
  ·omega
 refine VC_own' T_ok (f := 45) (fn := Tryd.f45) (by kernel_rfl) rfl Tryd.ntmps45 (by rfl) (by rfl) ?_
 ((repeat refine Ws ?_);refine Wr ?_)
 simp (maxSteps := 1000000) only [VL,VM,↓VG,reduceIte,reduceCtorEq,zA,zB,zC,zD,zE,zF,zG,zH,zI,zJ]
 ((repeat refine Ws ?_);refine Wr ?_)
 have hi' : (i < 4) = True := eq_true hi
 simp (maxSteps := 1000000) only [VL,VM,↓VG,reduceIte,reduceCtorEq,zA,zB,zC,zD,zE,zF,zG,zH,zI,zJ, t_sets, t_u8, hx, hi', h_and, h_neq, h_bit s i hs hi]
 (repeat refine Ws ?_)
 refine W_ret ?_
 try simp only [thenQ, blockQ]
 refine own_ret10 rfl ?_ (by rfl)
 simp only [get_cons, frz, vtup, Nat.reduceEqDiff, if_true, if_false, reduceIte]
abbrev hasF (s : Nat) : VV := .fn (.func 45) [hv s] []
theorem hasF_call (s i : Nat) (M : Mem) (hs : s < 16) (hi : i < 4) {Q : VV → Mem → Prop} (hq : Q (vb (s.testBit i)) M) : VCall Tryd.prog (hasF s) [vi i] M Q := by
 refine VCall_fn T_ok (f := 45) (fn := Tryd.f45) (by kernel_rfl) ?_
 refine VC.mono (show VC Tryd.prog 45 (([hv s] ++ [vi i] ++ []).map (sarg T 45)) _ _ from has_v s i M hs hi) ?_
 rintro _ _ ⟨rfl, rfl⟩
 exact hq
theorem admit1_v (s j wid : Nat) (M : Mem) (hs : s < 16) (hj : j < 4) (hP : M.H[wid]? = some (.obj [hasF s])) : VC Tryd.prog 46 [vi j, .ptr wid 0] M (fun r M' => M' = M ∧ r = vi (comeS s j)) := by
 refine VC_own' T_ok (f := 46) (fn := Tryd.f46) (by kernel_rfl) rfl Tryd.ntmps46 (by rfl) (by rfl) ?_
 ((repeat refine Ws ?_);refine Wr ?_)
 simp (maxSteps := 1000000) only [VL,VM,↓VG,reduceIte,reduceCtorEq,zA,zB,zC,zD,zE,zF,zG,zH,zI,zJ]
 ((repeat refine Ws ?_);refine Wr ?_)
 simp (maxSteps := 1000000) only [VL,VM,↓VG,reduceIte,reduceCtorEq,zA,zB,zC,zD,zE,zF,zG,zH,zI,zJ, hP]
 refine hasF_call s j M hs hj ?_
 simp (maxSteps := 1000000) only [VL,VM,↓VG,reduceIte,reduceCtorEq,zA,zB,zC,zD,zE,zF,zG,zH,zI,zJ]
 cases b : s.testBit j
 ·((repeat refine Ws ?_);refine Wf (by first|rfl|simp only [EV,zF,reduceIte]) ?_)
  ((repeat refine Ws ?_);refine W_skip ?_)
  simp (maxSteps := 1000000) only [VL,VM,↓VG,reduceIte,reduceCtorEq,zA,zB,zC,zD,zE,zF,zG,zH,zI,zJ]
  ((repeat refine Ws ?_);refine Wr ?_)
  simp (maxSteps := 1000000) only [VL,VM,↓VG,reduceIte,reduceCtorEq,zA,zB,zC,zD,zE,zF,zG,zH,zI,zJ]
  (repeat refine Ws ?_)
  refine W_ret ?_
  try simp only [thenQ, blockQ]
  refine own_ret10 rfl ?_ (by rfl)
  simp only [get_cons, frz, vtup, Nat.reduceEqDiff, if_true, if_false, reduceIte]
  unfold comeS
  rw [b]; rfl
 ·((repeat refine Ws ?_);refine Wt (by first|rfl|simp only [EV,zF,reduceIte]) ?_)
  ((repeat refine Ws ?_);refine Wr ?_)
  simp (maxSteps := 1000000) only [VL,VM,↓VG,reduceIte,reduceCtorEq,zA,zB,zC,zD,zE,zF,zG,zH,zI,zJ]
  (repeat refine Ws ?_)
  refine W_ret ?_
  try simp only [thenQ, blockQ]
  refine own_ret10 rfl ?_ (by rfl)
  simp only [get_cons, frz, vtup, Nat.reduceEqDiff, if_true, if_false, reduceIte]
  unfold comeS
  rw [b]; rfl
structure AdSt where
 s : Nat
 junk : List VObj
set_option maxHeartbeats 1000000 in
set_option maxRecDepth 8000 in
theorem admit_v (h : Ho) (HV : HV h) (ticks : Nat) (closed : List Int) (M : Mem) (ht : ticks ≤ 12) (hc : closed.length ≤ 1000000) : VC Tryd.prog 26 [houseV h, vi ticks, intsV closed] M (fun r M' => M' = M ∧ r = vi (admitV h ticks closed)) := by
 have n1 := HV.n1
 have hsb := sum_bd h.holds HV.holds
 refine VC_own' T_ok (f := 26) (fn := Tryd.f26) (by kernel_rfl) rfl Tryd.ntmps26 (by rfl) (by rfl) ?_
 ((repeat refine Ws ?_);refine Wr ?_)
 simp (maxSteps := 1000000) only [VL,VM,↓VG,reduceIte,reduceCtorEq,zA,zB,zC,zD,zE,zF,zG,zH,zI,zJ]
 ((repeat refine Ws ?_);refine Wr ?_)
 simp (maxSteps := 1000000) only [VL,VM,↓VG,reduceIte,reduceCtorEq,zA,zB,zC,zD,zE,zF,zG,zH,zI,zJ]
 ((repeat refine Ws ?_);refine Wr ?_)
 simp (maxSteps := 1000000) only [VL,VM,↓VG,reduceIte,reduceCtorEq,zA,zB,zC,zD,zE,zF,zG,zH,zI,zJ]
 ((repeat refine Ws ?_);refine W_block ?_; (repeat refine Ws ?_)); refine W_loopS (fun i : Nat => [(0, houseV h), (1, vi ticks), (2, intsV closed), (3, .ptr M.H.length 0), (7, vi (h.holds.take i).sum), (17, intsV h.holds), (18, vi h.holds.length), (19, vi i)]) (fun _ => ⟨M.H ++ [.obj (houseC h)], M.lg⟩) (fun i => h.holds.length - i) (fun i => i ≤ h.holds.length) 0 (Nat.zero_le _) ⟨rfl, rfl, rfl, rfl, rfl, rfl, rfl, rfl, trivial⟩ rfl ?_
 intro i hi
 have k1 : -9223372036854775808 ≤ (i : Int) + 1 ∧ (i : Int) + 1 < 9223372036854775808 := by omega
 ((repeat refine Ws ?_);refine Wr ?_)
 rcases Nat.lt_or_ge i h.holds.length with hlt | hge
 ·have k2 : ((i : Int) < (h.holds.length : Int)) = True := eq_true (by omega)
  have hx : h.holds[i]? = some h.holds[i] := List.getElem?_eq_getElem hlt
  have hm := HV.holds _ (List.getElem_mem hlt)
  have hs := sum_bd (h.holds.take i) fun n hn => HV.holds n (List.mem_of_mem_take hn)
  rw [List.length_take] at hs
  generalize h.holds[i] = d at hx hm
  have hx' := map_at (f := intP) hx
  have hsum : (h.holds.take (i + 1)).sum = (h.holds.take i).sum + d := by rw [List.take_add_one, hx]; simp
  have k3 : -9223372036854775808 ≤ (h.holds.take i).sum + d ∧ (h.holds.take i).sum + d < 9223372036854775808 := by omega
  simp (maxSteps := 1000000) only [VL,VM,↓VG,reduceIte,reduceCtorEq,zA,zB,zC,zD,zE,zF,zG,zH,zI,zJ, k2]
  ((repeat refine Ws ?_);refine Wt (by first|rfl|simp only [EV,zF,reduceIte]) ?_)
  ((repeat refine Ws ?_);refine W_skip ?_)
  simp (maxSteps := 1000000) only [VL,VM,↓VG,reduceIte,reduceCtorEq,zA,zB,zC,zD,zE,zF,zG,zH,zI,zJ]
  ((repeat refine Ws ?_);refine W_block ?_)
  ((repeat refine Ws ?_);refine Wr ?_)
  simp (maxSteps := 1000000) only [VL,VM,↓VG,reduceIte,reduceCtorEq,zA,zB,zC,zD,zE,zF,zG,zH,zI,zJ, hx']
  ((repeat refine Ws ?_);refine Wr ?_)
  simp (maxSteps := 1000000) only [VL,VM,↓VG,reduceIte,reduceCtorEq,zA,zB,zC,zD,zE,zF,zG,zH,zI,zJ, k3]
  ((repeat refine Ws ?_);refine Wr ?_)
  simp (maxSteps := 1000000) only [VL,VM,↓VG,reduceIte,reduceCtorEq,zA,zB,zC,zD,zE,zF,zG,zH,zI,zJ, k1]
  refine LoopK.mk (i + 1) (by omega) (by omega) ⟨rfl, rfl, rfl, rfl, ?_, rfl, rfl, rfl, trivial⟩ rfl
  rw [hsum]; rfl
 have k2 : ((i : Int) < (h.holds.length : Int)) = False := eq_false (by omega)
 obtain rfl : i = h.holds.length := by omega
 simp (maxSteps := 1000000) only [VL,VM,↓VG,reduceIte,reduceCtorEq,zA,zB,zC,zD,zE,zF,zG,zH,zI,zJ, k2, List.take_length]
 ((repeat refine Ws ?_);refine Wf (by first|rfl|simp only [EV,zF,reduceIte]) ?_)
 ((repeat refine Ws ?_);refine W_exit ?_)
 simp (maxSteps := 1000000) only [VL,VM,↓VG,reduceIte,reduceCtorEq,zA,zB,zC,zD,zE,zF,zG,zH,zI,zJ]
 ((repeat refine Ws ?_);refine Wr ?_)
 simp (maxSteps := 1000000) only [VL,VM,↓VG,reduceIte,reduceCtorEq,zA,zB,zC,zD,zE,zF,zG,zH,zI,zJ, h_shl _ _ n1]
 have hpw : 2 ^ h.holds.length ≤ 2 ^ 4 := Nat.pow_le_pow_right (by omega) n1
 clear k1 k2 hge
 ((repeat refine Ws ?_);refine W_block ?_; (repeat refine Ws ?_)); refine W_loopS (fun s : AdSt => [(0, houseV h), (1, vi ticks), (2, intsV closed), (3, .ptr M.H.length 0), (7, vi ((List.range s.s).foldl (bestS h ticks closed) h.holds.sum)), (30, hv ((2 ^ h.holds.length : Nat) : Int)), (31, hv s.s)]) (fun s => ⟨M.H ++ (.obj (houseC h) :: s.junk), M.lg⟩) (fun s => 2 ^ h.holds.length - s.s) (fun s => s.s ≤ 2 ^ h.holds.length) ⟨0, []⟩ (Nat.zero_le _) ⟨rfl, rfl, rfl, rfl, rfl, rfl, rfl, trivial⟩ rfl ?_
 rintro ⟨s, junk⟩ hs
 simp only at hs
 ((repeat refine Ws ?_);refine Wr ?_)
 rcases Nat.lt_or_ge s (2 ^ h.holds.length) with hlt | hge
 ·have k2 : ((s : Int) < ((2 ^ h.holds.length : Nat) : Int)) = True := eq_true (by omega)
  have hs16 : s < 16 := by omega
  simp (maxSteps := 1000000) only [VL,VM,↓VG,reduceIte,reduceCtorEq,zA,zB,zC,zD,zE,zF,zG,zH,zI,zJ, h_lss, k2]
  ((repeat refine Ws ?_);refine Wt (by first|rfl|simp only [EV,zF,reduceIte]) ?_)
  ((repeat refine Ws ?_);refine W_skip ?_)
  simp (maxSteps := 1000000) only [VL,VM,↓VG,reduceIte,reduceCtorEq,zA,zB,zC,zD,zE,zF,zG,zH,zI,zJ]
  ((repeat refine Ws ?_);refine W_block ?_)
  ((repeat refine Ws ?_);refine Wr ?_)
  simp (maxSteps := 1000000) only [VL,VM,↓VG,reduceIte,reduceCtorEq,zA,zB,zC,zD,zE,zF,zG,zH,zI,zJ]
  ((repeat refine Ws ?_);refine Wr ?_)
  simp (maxSteps := 1000000) only [VL,VM,↓VG,reduceIte,reduceCtorEq,zA,zB,zC,zD,zE,zF,zG,zH,zI,zJ, t_fhas]
  ((repeat refine Ws ?_);refine Wr ?_)
  simp (maxSteps := 1000000) only [VL,VM,↓VG,reduceIte,reduceCtorEq,zA,zB,zC,zD,zE,zF,zG,zH,zI,zJ]
  ((repeat refine Ws ?_);refine Wr ?_)
  simp (maxSteps := 1000000) only [VL,VM,↓VG,reduceIte,reduceCtorEq,zA,zB,zC,zD,zE,zF,zG,zH,zI,zJ]
  obtain ⟨H1, hH1⟩ : ∃ H1, H1 = M.H ++ VObj.obj (houseC h) :: (junk ++ [VObj.obj [hasF s]]) := ⟨_, rfl⟩
  have hh0 : H1[M.H.length]? = some (.obj (houseC h)) := by rw [hH1, hget0]; rfl
  have hf0 : H1[M.H.length + (junk.length + 1)]? = some (.obj [hasF s]) := by
   rw [hH1, hget, List.getElem?_cons_succ, hget0]
   rfl
  rw [← hH1]
  ((repeat refine Ws ?_);refine W_block ?_; (repeat refine Ws ?_)); refine W_loopS (fun i : Nat => [(0, houseV h), (1, vi ticks), (2, intsV closed), (3, .ptr M.H.length 0), (7, vi ((List.range s).foldl (bestS h ticks closed) h.holds.sum)), (30, hv ((2 ^ h.holds.length : Nat) : Int)), (31, hv s), (11, .ptr (M.H.length + (junk.length + 1)) 0), (12, vi (heldS s 0 (h.holds.take i))), (37, intsV h.holds), (38, vi h.holds.length), (39, vi i)]) (fun _ => ⟨H1, M.lg⟩) (fun i => h.holds.length - i) (fun i => i ≤ h.holds.length) 0 (Nat.zero_le _) ⟨rfl, rfl, rfl, rfl, rfl, rfl, rfl, rfl, rfl, rfl, rfl, rfl, trivial⟩ rfl ?_
  intro i hi2
  have k1 : -9223372036854775808 ≤ (i : Int) + 1 ∧ (i : Int) + 1 < 9223372036854775808 := by omega
  ((repeat refine Ws ?_);refine Wr ?_)
  rcases Nat.lt_or_ge i h.holds.length with hlt2 | hge2
  ·have k3 : ((i : Int) < (h.holds.length : Int)) = True := eq_true (by omega)
   have hx : h.holds[i]? = some h.holds[i] := List.getElem?_eq_getElem hlt2
   have hm := HV.holds _ (List.getElem_mem hlt2)
   have hb := heldS_bd s (h.holds.take i) 0 fun n hn => HV.holds n (List.mem_of_mem_take hn)
   rw [List.length_take] at hb
   generalize h.holds[i] = d at hx hm
   have hx' := map_at (f := intP) hx
   have hsn : heldS s 0 (h.holds.take (i + 1)) = heldS s 0 (h.holds.take i) + (if s.testBit i then d else 0) := by
    rw [List.take_add_one, hx, Option.toList_some, heldS_snoc, List.length_take, Nat.zero_add, Nat.min_eq_left hi2]
   simp (maxSteps := 1000000) only [VL,VM,↓VG,reduceIte,reduceCtorEq,zA,zB,zC,zD,zE,zF,zG,zH,zI,zJ, k3]
   ((repeat refine Ws ?_);refine Wt (by first|rfl|simp only [EV,zF,reduceIte]) ?_)
   ((repeat refine Ws ?_);refine W_skip ?_)
   simp (maxSteps := 1000000) only [VL,VM,↓VG,reduceIte,reduceCtorEq,zA,zB,zC,zD,zE,zF,zG,zH,zI,zJ]
   ((repeat refine Ws ?_);refine W_block ?_)
   ((repeat refine Ws ?_);refine Wr ?_)
   simp (maxSteps := 1000000) only [VL,VM,↓VG,reduceIte,reduceCtorEq,zA,zB,zC,zD,zE,zF,zG,zH,zI,zJ, hx']
   ((repeat refine Ws ?_);refine Wr ?_)
   simp (maxSteps := 1000000) only [VL,VM,↓VG,reduceIte,reduceCtorEq,zA,zB,zC,zD,zE,zF,zG,zH,zI,zJ, hf0]
   refine hasF_call s i _ hs16 (by omega) ?_
   simp (maxSteps := 1000000) only [VL,VM,↓VG,reduceIte,reduceCtorEq,zA,zB,zC,zD,zE,zF,zG,zH,zI,zJ]
   cases b : s.testBit i
   ·rw [b] at hsn
    rw [if_neg (by decide), Int.add_zero] at hsn
    ((repeat refine Ws ?_);refine Wf (by first|rfl|simp only [EV,zF,reduceIte]) ?_)
    ((repeat refine Ws ?_);refine W_skip ?_)
    simp (maxSteps := 1000000) only [VL,VM,↓VG,reduceIte,reduceCtorEq,zA,zB,zC,zD,zE,zF,zG,zH,zI,zJ]
    ((repeat refine Ws ?_);refine Wr ?_)
    simp (maxSteps := 1000000) only [VL,VM,↓VG,reduceIte,reduceCtorEq,zA,zB,zC,zD,zE,zF,zG,zH,zI,zJ, k1]
    refine LoopK.mk (i + 1) (by omega) (by omega) ⟨rfl, rfl, rfl, rfl, rfl, rfl, rfl, rfl, ?_, rfl, rfl, rfl, trivial⟩ rfl
    rw [hsn]; rfl
   ·rw [b, if_pos rfl] at hsn
    have k4 : -9223372036854775808 ≤ heldS s 0 (h.holds.take i) + d ∧ heldS s 0 (h.holds.take i) + d < 9223372036854775808 := by omega
    ((repeat refine Ws ?_);refine Wt (by first|rfl|simp only [EV,zF,reduceIte]) ?_)
    ((repeat refine Ws ?_);refine Wr ?_)
    simp (maxSteps := 1000000) only [VL,VM,↓VG,reduceIte,reduceCtorEq,zA,zB,zC,zD,zE,zF,zG,zH,zI,zJ, k4]
    ((repeat refine Ws ?_);refine Wr ?_)
    simp (maxSteps := 1000000) only [VL,VM,↓VG,reduceIte,reduceCtorEq,zA,zB,zC,zD,zE,zF,zG,zH,zI,zJ, k1]
    refine LoopK.mk (i + 1) (by omega) (by omega) ⟨rfl, rfl, rfl, rfl, rfl, rfl, rfl, rfl, ?_, rfl, rfl, rfl, trivial⟩ rfl
    rw [hsn]; rfl
  have k3 : ((i : Int) < (h.holds.length : Int)) = False := eq_false (by omega)
  have hi3 : i = h.holds.length := by omega
  subst hi3
  simp (maxSteps := 1000000) only [VL,VM,↓VG,reduceIte,reduceCtorEq,zA,zB,zC,zD,zE,zF,zG,zH,zI,zJ, k3, List.take_length]
  ((repeat refine Ws ?_);refine Wf (by first|rfl|simp only [EV,zF,reduceIte]) ?_)
  ((repeat refine Ws ?_);refine W_exit ?_)
  simp (maxSteps := 1000000) only [VL,VM,↓VG,reduceIte,reduceCtorEq,zA,zB,zC,zD,zE,zF,zG,zH,zI,zJ]
  ((repeat refine Ws ?_);refine Wr ?_)
  simp (maxSteps := 1000000) only [VL,VM,↓VG,reduceIte,reduceCtorEq,zA,zB,zC,zD,zE,zF,zG,zH,zI,zJ, hh0]
  refine callf_u (f := 23) (fn := Tryd.f23) (caps := []) (by kernel_rfl) (by rfl) (by exact leave_v h (cf := 46) (cfn := Tryd.f46) (by kernel_rfl) (by rfl) (ccaps := [.ptr (M.H.length + (junk.length + 1)) 0]) rfl (ticks := ticks) (closed := closed) (come := comeS s) (PkC := fun A => A[M.H.length + (junk.length + 1)]? = some (.obj [hasF s])) (fun A L q => get_app q) (fun j M' hj hP => admit1_v s j _ M' hs16 (by omega) hP) HV.n1 HV.d1 ht hc (fun d hd => (HV.doors d hd).ok) (fun j hj => by unfold comeS; split <;> omega) _ hf0 (by intro x hx; simp [refsL, refs] at hx; rw [hH1]; simp; omega)) ?_
  have hfold : (List.range (s + 1)).foldl (bestS h ticks closed) h.holds.sum = bestS h ticks closed ((List.range s).foldl (bestS h ticks closed) h.holds.sum) s := by rw [List.range_succ, List.foldl_append]; rfl
  have hw := h_wr s hs16
  generalize (List.range s).foldl (bestS h ticks closed) h.holds.sum = best at hfold
  simp (maxSteps := 1000000) only [VL,VM,↓VG,reduceIte,reduceCtorEq,zA,zB,zC,zD,zE,zF,zG,zH,zI,zJ]
  ((repeat refine Ws ?_);refine Wr ?_)
  by_cases b : outS h ticks closed s < heldS s 0 h.holds
  ·have k4 : (leaveV h.holds.length h.doors ticks closed (comeS s) < heldS s 0 h.holds) = True := eq_true b
   have hbs : bestS h ticks closed best s = min best (leaveV h.holds.length h.doors ticks closed (comeS s)) := by unfold bestS; rw [if_pos b]; rfl
   simp (maxSteps := 1000000) only [VL,VM,↓VG,reduceIte,reduceCtorEq,zA,zB,zC,zD,zE,zF,zG,zH,zI,zJ, k4]
   ((repeat refine Ws ?_);refine Wt (by first|rfl|simp only [EV,zF,reduceIte]) ?_)
   ((repeat refine Ws ?_);refine Wr ?_)
   simp (maxSteps := 1000000) only [VL,VM,↓VG,reduceIte,reduceCtorEq,zA,zB,zC,zD,zE,zF,zG,zH,zI,zJ]
   ((repeat refine Ws ?_);refine Wr ?_)
   simp (maxSteps := 1000000) only [VL,VM,↓VG,reduceIte,reduceCtorEq,zA,zB,zC,zD,zE,zF,zG,zH,zI,zJ, h_add, hw]
   refine LoopK.mk ⟨s + 1, junk ++ [.obj [hasF s]]⟩ (by simp only; omega) (by simp only; omega) ⟨rfl, rfl, rfl, rfl, ?_, rfl, rfl, trivial⟩ (by rw [hH1])
   simp only
   rw [hfold, hbs]; rfl
  ·have k4 : (leaveV h.holds.length h.doors ticks closed (comeS s) < heldS s 0 h.holds) = False := eq_false b
   have hbs : bestS h ticks closed best s = best := by unfold bestS; rw [if_neg b]
   simp (maxSteps := 1000000) only [VL,VM,↓VG,reduceIte,reduceCtorEq,zA,zB,zC,zD,zE,zF,zG,zH,zI,zJ, k4]
   ((repeat refine Ws ?_);refine Wf (by first|rfl|simp only [EV,zF,reduceIte]) ?_)
   ((repeat refine Ws ?_);refine W_skip ?_)
   simp (maxSteps := 1000000) only [VL,VM,↓VG,reduceIte,reduceCtorEq,zA,zB,zC,zD,zE,zF,zG,zH,zI,zJ]
   ((repeat refine Ws ?_);refine Wr ?_)
   simp (maxSteps := 1000000) only [VL,VM,↓VG,reduceIte,reduceCtorEq,zA,zB,zC,zD,zE,zF,zG,zH,zI,zJ, h_add, hw]
   refine LoopK.mk ⟨s + 1, junk ++ [.obj [hasF s]]⟩ (by simp only; omega) (by simp only; omega) ⟨rfl, rfl, rfl, rfl, ?_, rfl, rfl, trivial⟩ (by rw [hH1])
   simp only
   rw [hfold, hbs]; rfl
 have k2 : ((s : Int) < ((2 ^ h.holds.length : Nat) : Int)) = False := eq_false (by omega)
 obtain rfl : s = 2 ^ h.holds.length := by omega
 simp (maxSteps := 1000000) only [VL,VM,↓VG,reduceIte,reduceCtorEq,zA,zB,zC,zD,zE,zF,zG,zH,zI,zJ, h_lss, k2]
 ((repeat refine Ws ?_);refine Wf (by first|rfl|simp only [EV,zF,reduceIte]) ?_)
 ((repeat refine Ws ?_);refine W_exit ?_)
 simp (maxSteps := 1000000) only [VL,VM,↓VG,reduceIte,reduceCtorEq,zA,zB,zC,zD,zE,zF,zG,zH,zI,zJ]
 ((repeat refine Ws ?_);refine Wr ?_)
 simp (maxSteps := 1000000) only [VL,VM,↓VG,reduceIte,reduceCtorEq,zA,zB,zC,zD,zE,zF,zG,zH,zI,zJ]
 (repeat refine Ws ?_)
 refine W_ret ?_
 try simp only [thenQ, blockQ]
 refine own_ret1 rfl ?_ (by rfl)
 simp only [get_cons, frz, vtup, Nat.reduceEqDiff, if_true, if_false, reduceIte]
 rfl
theorem ticks_v (h : Ho) (at_ ticks : Int) (closed : List Int) (M : Mem) (hl : h.holds.length ≤ 1000000) (hld : h.doors.length ≤ 1000000) (hlc : h.counts.length ≤ 1000000) (hc : closed.length ≤ 1000000) : VC Tryd.prog 25 [houseV h, vi at_, vi ticks, intsV closed] M (fun r M' => M' = M ∧ r = vi (ticksErr h at_ ticks closed)) := by
 have e0 : ticksErr h at_ ticks closed = ticksErr h at_ ticks closed := rfl
 conv at e0 => rhs; unfold ticksErr
 refine VC_own' T_ok (f := 25) (fn := Tryd.f25) (by kernel_rfl) rfl Tryd.ntmps25 (by rfl) (by rfl) ?_
 ((repeat refine Ws ?_);refine Wr ?_)
 simp (maxSteps := 1000000) only [VL,VM,↓VG,reduceIte,reduceCtorEq,zA,zB,zC,zD,zE,zF,zG,zH,zI,zJ]
 ((repeat refine Ws ?_);refine Wr ?_)
 simp (maxSteps := 1000000) only [VL,VM,↓VG,reduceIte,reduceCtorEq,zA,zB,zC,zD,zE,zF,zG,zH,zI,zJ]
 apply call_eq (f := 8) (fn := Tryd.f8) (by kernel_rfl) (by rfl)
 ·exact check_v h _ hl hld hlc
 simp (maxSteps := 1000000) only [VL,VM,↓VG,reduceIte,reduceCtorEq,zA,zB,zC,zD,zE,zF,zG,zH,zI,zJ]
 ((repeat refine Ws ?_);refine Wr ?_)
 by_cases a1 : houseErr h = 0
 rotate_left
 ·rw [if_neg a1] at e0
  simp (maxSteps := 1000000) only [VL,VM,↓VG,reduceIte,reduceCtorEq,zA,zB,zC,zD,zE,zF,zG,zH,zI,zJ, a1]
  ((repeat refine Ws ?_);refine Wt (by first|rfl|simp only [EV,zF,reduceIte]) ?_)
  ((repeat refine Ws ?_);refine Wr ?_)
  simp (maxSteps := 1000000) only [VL,VM,↓VG,reduceIte,reduceCtorEq,zA,zB,zC,zD,zE,zF,zG,zH,zI,zJ]
  (repeat refine Ws ?_)
  refine W_ret ?_
  try simp only [thenQ, blockQ]
  refine own_ret1 rfl ?_ (by rfl)
  simp only [get_cons, frz, vtup, Nat.reduceEqDiff, if_true, if_false, reduceIte]
  rw [e0]
 rw [if_pos a1] at e0
 simp (maxSteps := 1000000) only [VL,VM,↓VG,reduceIte,reduceCtorEq,zA,zB,zC,zD,zE,zF,zG,zH,zI,zJ, a1]
 ((repeat refine Ws ?_);refine Wf (by first|rfl|simp only [EV,zF,reduceIte]) ?_)
 ((repeat refine Ws ?_);refine W_skip ?_)
 simp (maxSteps := 1000000) only [VL,VM,↓VG,reduceIte,reduceCtorEq,zA,zB,zC,zD,zE,zF,zG,zH,zI,zJ]
 ((repeat refine Ws ?_);refine Wr ?_)
 simp (maxSteps := 1000000) only [VL,VM,↓VG,reduceIte,reduceCtorEq,zA,zB,zC,zD,zE,zF,zG,zH,zI,zJ]
 apply call_eq (f := 21) (fn := Tryd.f21) (by kernel_rfl) (by rfl)
 ·exact in_v _ _ _ _
 cases a2 : inR at_ 0 h.ticks
 ·rw [a2] at e0
  simp (maxSteps := 1000000) only [VL,VM,↓VG,reduceIte,reduceCtorEq,zA,zB,zC,zD,zE,zF,zG,zH,zI,zJ]
  ((repeat refine Ws ?_);refine Wt (by first|rfl|simp only [EV,zF,reduceIte]) ?_)
  ((repeat refine Ws ?_);refine Wr ?_)
  simp (maxSteps := 1000000) only [VL,VM,↓VG,reduceIte,reduceCtorEq,zA,zB,zC,zD,zE,zF,zG,zH,zI,zJ]
  (repeat refine Ws ?_)
  refine W_ret ?_
  try simp only [thenQ, blockQ]
  refine own_ret1 rfl ?_ (by rfl)
  simp only [get_cons, frz, vtup, Nat.reduceEqDiff, if_true, if_false, reduceIte]
  rw [e0]; rfl
 rw [a2] at e0
 simp (maxSteps := 1000000) only [VL,VM,↓VG,reduceIte,reduceCtorEq,zA,zB,zC,zD,zE,zF,zG,zH,zI,zJ]
 apply call_eq (f := 21) (fn := Tryd.f21) (by kernel_rfl) (by rfl)
 ·exact in_v _ _ _ _
 cases a3 : inR ticks 0 12
 ·rw [a3] at e0
  simp (maxSteps := 1000000) only [VL,VM,↓VG,reduceIte,reduceCtorEq,zA,zB,zC,zD,zE,zF,zG,zH,zI,zJ]
  ((repeat refine Ws ?_);refine Wt (by first|rfl|simp only [EV,zF,reduceIte]) ?_)
  ((repeat refine Ws ?_);refine Wr ?_)
  simp (maxSteps := 1000000) only [VL,VM,↓VG,reduceIte,reduceCtorEq,zA,zB,zC,zD,zE,zF,zG,zH,zI,zJ]
  (repeat refine Ws ?_)
  refine W_ret ?_
  try simp only [thenQ, blockQ]
  refine own_ret1 rfl ?_ (by rfl)
  simp only [get_cons, frz, vtup, Nat.reduceEqDiff, if_true, if_false, reduceIte]
  rw [e0]; rfl
 rw [a3] at e0
 simp (maxSteps := 1000000) only [VL,VM,↓VG,reduceIte,reduceCtorEq,zA,zB,zC,zD,zE,zF,zG,zH,zI,zJ]
 ((repeat refine Ws ?_);refine Wf (by first|rfl|simp only [EV,zF,reduceIte]) ?_)
 ((repeat refine Ws ?_);refine W_skip ?_)
 simp (maxSteps := 1000000) only [VL,VM,↓VG,reduceIte,reduceCtorEq,zA,zB,zC,zD,zE,zF,zG,zH,zI,zJ]
 ((repeat refine Ws ?_);refine Wr ?_)
 simp (maxSteps := 1000000) only [VL,VM,↓VG,reduceIte,reduceCtorEq,zA,zB,zC,zD,zE,zF,zG,zH,zI,zJ]
 apply call_eq (f := 22) (fn := Tryd.f22) (by kernel_rfl) (by rfl)
 ·exact closed_v h closed _ hc hld
 simp (maxSteps := 1000000) only [VL,VM,↓VG,reduceIte,reduceCtorEq,zA,zB,zC,zD,zE,zF,zG,zH,zI,zJ]
 (repeat refine Ws ?_)
 refine W_ret ?_
 try simp only [thenQ, blockQ]
 refine own_ret1 rfl ?_ (by rfl)
 simp only [get_cons, frz, vtup, Nat.reduceEqDiff, if_true, if_false, reduceIte]
 rw [e0]; rfl
theorem Admit_v (h : Ho) (ticks : Int) (closed : List Int) (M : Mem) (hl : h.holds.length ≤ 1000000) (hld : h.doors.length ≤ 1000000) (hlc : h.counts.length ≤ 1000000) (hc : closed.length ≤ 1000000) : VC Tryd.prog 10 [houseV h, vi ticks, intsV closed] M (fun r M' => M' = M ∧ r = .tup [vi (admitR h ticks closed).1, vi (admitR h ticks closed).2]) := by
 refine VC_own' T_ok (f := 10) (fn := Tryd.f10) (by kernel_rfl) rfl Tryd.ntmps10 (by rfl) (by rfl) ?_
 ((repeat refine Ws ?_);refine Wr ?_)
 simp (maxSteps := 1000000) only [VL,VM,↓VG,reduceIte,reduceCtorEq,zA,zB,zC,zD,zE,zF,zG,zH,zI,zJ]
 ((repeat refine Ws ?_);refine Wr ?_)
 simp (maxSteps := 1000000) only [VL,VM,↓VG,reduceIte,reduceCtorEq,zA,zB,zC,zD,zE,zF,zG,zH,zI,zJ]
 apply call_eq (f := 25) (fn := Tryd.f25) (by kernel_rfl) (by rfl)
 ·exact ticks_v h 0 ticks closed _ hl hld hlc hc
 simp (maxSteps := 1000000) only [VL,VM,↓VG,reduceIte,reduceCtorEq,zA,zB,zC,zD,zE,zF,zG,zH,zI,zJ]
 ((repeat refine Ws ?_);refine Wr ?_)
 by_cases a1 : ticksErr h 0 ticks closed = 0
 rotate_left
 ·simp (maxSteps := 1000000) only [VL,VM,↓VG,reduceIte,reduceCtorEq,zA,zB,zC,zD,zE,zF,zG,zH,zI,zJ, a1]
  ((repeat refine Ws ?_);refine Wt (by first|rfl|simp only [EV,zF,reduceIte]) ?_)
  ((repeat refine Ws ?_);refine Wr ?_)
  simp (maxSteps := 1000000) only [VL,VM,↓VG,reduceIte,reduceCtorEq,zA,zB,zC,zD,zE,zF,zG,zH,zI,zJ]
  (repeat refine Ws ?_)
  refine W_ret ?_
  try simp only [thenQ, blockQ]
  refine own_ret2 rfl rfl rfl ?_ ?_
  ·unfold admitR; rw [if_neg a1]
  ·unfold admitR; rw [if_neg a1]
 have hT : ticksErr h 0 ticks closed = 0 := a1
 unfold ticksErr at hT
 have hh : houseErr h = 0 := by
  split at hT
  ·assumption
  ·assumption
 rw [if_pos hh] at hT
 have ht : inR ticks 0 12 = true := by
  cases q : inR ticks 0 12 with
  | true => rfl
  | false => rw [q, Bool.and_false] at hT; simp at hT
 have ht2 := inR_true.1 ht
 obtain ⟨n, rfl⟩ : ∃ n : Nat, ticks = (n : Int) := ⟨ticks.toNat, by omega⟩
 simp (maxSteps := 1000000) only [VL,VM,↓VG,reduceIte,reduceCtorEq,zA,zB,zC,zD,zE,zF,zG,zH,zI,zJ, a1]
 ((repeat refine Ws ?_);refine Wf (by first|rfl|simp only [EV,zF,reduceIte]) ?_)
 ((repeat refine Ws ?_);refine W_skip ?_)
 simp (maxSteps := 1000000) only [VL,VM,↓VG,reduceIte,reduceCtorEq,zA,zB,zC,zD,zE,zF,zG,zH,zI,zJ]
 ((repeat refine Ws ?_);refine Wr ?_)
 simp (maxSteps := 1000000) only [VL,VM,↓VG,reduceIte,reduceCtorEq,zA,zB,zC,zD,zE,zF,zG,zH,zI,zJ]
 apply call_eq (f := 26) (fn := Tryd.f26) (by kernel_rfl) (by rfl)
 ·exact admit_v h (houseErr_ok.1 hh) n closed _ (by omega) hc
 simp (maxSteps := 1000000) only [VL,VM,↓VG,reduceIte,reduceCtorEq,zA,zB,zC,zD,zE,zF,zG,zH,zI,zJ]
 (repeat refine Ws ?_)
 refine W_ret ?_
 try simp only [thenQ, blockQ]
 refine own_ret2 rfl rfl rfl ?_ ?_
 ·unfold admitR; rw [if_pos a1]; rfl
 ·unfold admitR; rw [if_pos a1]
end Go.Proofs.YtekhddlngbppkaaDoor.Vm
