/- A part of the proofs about the chapter of the doors; it states no condition of its own. -/
import Derived.Test.YtmagiabapakhcaaB13
import Derived.Test.YtmagiabapakhcaaB18
set_option linter.unusedVariables false
set_option linter.unusedSimpArgs false
open Int renaming reduceLE → zA, reduceLT → zB, reduceToNat → zC, reduceNeg → zD
open Nat renaming reduceLT → zE, reduceEqDiff → zF, reduceAdd → zG, reduceSub → zH, reduceMul → zI, reduceLeDiff → zJ
/- Ways and who can leave, on values. (Vm) -/
namespace Go.Proofs.Ytmagiabapakhcaa.Vm
open Go Go.Proofs
abbrev wayL (h : Ho) (cv : VV) (ticks : Nat) (closed : List Int) : List VObj := [.obj (houseC h), .obj [vi ticks], .obj [intsV closed], .obj [cv]]
abbrev waysV (n : Nat) : VV := .fn (.func 110) [] [.ptr n 0, .ptr (n + 3) 0, .ptr (n + 1) 0, .ptr (n + 2) 0]
theorem ways_v (h : Ho) (ticks : Nat) (closed : List Int) (cf : Nat) (ccaps : List VV) (M : Mem) (hr : ∀ x ∈ refsL ccaps, x < M.H.length) : VC Try.prog 101 [houseV h, vi ticks, intsV closed, .fn (.func cf) [] ccaps] M (fun r M' => M' = ⟨M.H ++ wayL h (.fn (.func cf) [] ccaps) ticks closed, M.lg⟩ ∧ r = waysV M.H.length) := by
 refine VC_escK T_ok (f := 101) (fn := Try.f101) (by kernel_rfl) rfl Try.ntmps101 (by rfl) (by rfl) ?_
 ((repeat refine Ws ?_);refine Wr ?_)
 simp (maxSteps := 1000000) only [VL,VM,↓VG,reduceIte,reduceCtorEq,zA,zB,zC,zD,zE,zF,zG,zH,zI,zJ]
 ((repeat refine Ws ?_);refine Wr ?_)
 simp (maxSteps := 1000000) only [VL,VM,↓VG,reduceIte,reduceCtorEq,zA,zB,zC,zD,zE,zF,zG,zH,zI,zJ]
 (repeat refine Ws ?_)
 refine W_ret ?_
 try simp only [thenQ, blockQ]
 refine ⟨.inr trivial, _, rfl, [waysV M.H.length], rfl, ⟨M.H.length, ?_, Nat.le_refl _⟩, rfl, rfl⟩
 simp [vtup, frz, frzL, refs, refsL]
noncomputable def leaveV (nH : Nat) (ds : List Do) (ticks : Nat) (closed : List Int) (come : Nat → Int) : Int := mfv (2 + (ticks + 1) * nH) (tabOfW (2 + (ticks + 1) * nH) (waysOf nH ds ticks closed come))
theorem leave_v (h : Ho) {cf : Nat} {cfn : Func} (hcf : T.fn cf = some cfn) (hkc : T.keeps cf = false) {ccaps : List VV} (hcs : ccaps.map strip1 = ccaps) {ticks : Nat} {closed : List Int} {come : Nat → Int} {PkC : List VObj → Prop} (hstab : ∀ A L, PkC A → PkC (A ++ L)) (hcome : ∀ (j : Nat) (M : Mem), j < h.holds.length → PkC M.H → VC Try.prog cf (vi j :: ccaps) M (fun r M' => M' = M ∧ r = vi (come j))) (hn : h.holds.length ≤ 4) (hd : h.doors.length ≤ 5) (ht : ticks ≤ 12) (hcl : closed.length ≤ 1000000) (hdo : ∀ d ∈ h.doors, DoOk h.holds.length d) (hc0 : ∀ i, i < h.holds.length → 0 ≤ come i ∧ come i ≤ 1073741824) (M : Mem) (hP : PkC M.H) (hr : ∀ x ∈ refsL ccaps, x < M.H.length) :
  VC Try.prog 76 [houseV h, vi ticks, intsV closed, .fn (.func cf) [] ccaps] M (fun r M' => M' = M ∧ r = vi (leaveV h.holds.length h.doors ticks closed come)) := by
 have m1 : (ticks + 1) * h.holds.length ≤ 13 * 4 := Nat.mul_le_mul (by omega) hn
 have hN : (2 : Int) + ((ticks : Int) + 1) * (h.holds.length : Int) = ((2 + (ticks + 1) * h.holds.length : Nat) : Int) := by push_cast; rfl
 have hp : ((ticks : Int) + 1) * (h.holds.length : Int) = (((ticks + 1) * h.holds.length : Nat) : Int) := by push_cast; rfl
 have k1 : -9223372036854775808 ≤ (ticks : Int) + 1 ∧ (ticks : Int) + 1 < 9223372036854775808 := by omega
 have k2 : -9223372036854775808 ≤ ((ticks : Int) + 1) * (h.holds.length : Int) ∧ ((ticks : Int) + 1) * (h.holds.length : Int) < 9223372036854775808 := by rw [hp]; omega
 have k3 : -9223372036854775808 ≤ (2 : Int) + ((ticks : Int) + 1) * (h.holds.length : Int) ∧ (2 : Int) + ((ticks : Int) + 1) * (h.holds.length : Int) < 9223372036854775808 := by rw [hN]; omega
 refine VC_own' T_ok (f := 76) (fn := Try.f76) (by kernel_rfl) rfl Try.ntmps76 (by rfl) (by rfl) ?_
 ((repeat refine Ws ?_);refine Wr ?_)
 simp (maxSteps := 1000000) only [VL,VM,↓VG,reduceIte,reduceCtorEq,zA,zB,zC,zD,zE,zF,zG,zH,zI,zJ]
 (repeat refine Ws ?_)
 refine W_drawP T_ok [] (by kernel_rfl) (by kernel_rfl) ?_
 generalize hi : mkPlan _ = infs
 cbv at hi
 subst hi
 simp (maxSteps := 1000000) only [VL,VM,↓VG,reduceIte,reduceCtorEq,zA,zB,zC,zD,zE,zF,zG,zH,zI,zJ, k1, k2, k3]
 apply call_d (f := 101) (fn := Try.f101) (by kernel_rfl) (by rfl)
 ·exact ways_v h ticks closed cf ccaps ⟨M.H ++ [.obj (houseC h)], M.lg⟩ (fun x hx => by have := hr x hx; rw [List.length_append]; omega)
 simp (maxSteps := 1000000) only [VL,VM,↓VG,reduceIte,reduceCtorEq,zA,zB,zC,zD,zE,zF,zG,zH,zI,zJ, k1, k2, k3]
 rw [hN]
 have hit := @ways_it h cf cfn hcf hkc ccaps hcs ticks closed come (M.H.length + 1) (M.H.length + 1 + 3) (M.H.length + 1 + 1) (M.H.length + 1 + 2) PkC hstab hcome hn hd ht hcl hdo
 apply call_d (f := 82) (fn := Try.f82) (by kernel_rfl) (by rfl)
 ·exact flow_v (fi := 110) (fni := Try.f110) (by kernel_rfl) (by rfl) (by rfl) (@hit) (fun A L q => ⟨q.1.app L, hstab A L q.2⟩) (by omega) (by omega) (waysOf_ok hdo hc0) (waysOf_len hn hd ht) _ ⟨⟨by simp only [hget]; rfl, by simp only [Nat.add_assoc, hget]; rfl, by simp only [Nat.add_assoc, hget]; rfl, by simp only [Nat.add_assoc, hget]; rfl⟩, hstab _ _ hP⟩
 simp (maxSteps := 1000000) only [VL,VM,↓VG,reduceIte,reduceCtorEq,zA,zB,zC,zD,zE,zF,zG,zH,zI,zJ, k1, k2, k3]
 ((repeat refine Ws ?_);refine Wr ?_)
 simp (maxSteps := 1000000) only [VL,VM,↓VG,reduceIte,reduceCtorEq,zA,zB,zC,zD,zE,zF,zG,zH,zI,zJ]
 (repeat refine Ws ?_)
 refine W_ret ?_
 try simp only [thenQ, blockQ]
 refine own_ret1 rfl ?_ (by rfl)
 simp only [get_cons, frz, vtup, Nat.reduceEqDiff, if_true, if_false, reduceIte]
 rfl
end Go.Proofs.Ytmagiabapakhcaa.Vm

/- Houses, plain: which errors, and how many people may be inside. -/
namespace Go.Proofs.Ytmagiabapakhcaa
def spErr (x : Sp) : Int := if inR x.lo 0 10000 && inR x.hi 0 10000 then (if x.hi < x.lo then 5 else 0) else 1
def doErr (n : Nat) (d : Do) : Int := if inR d.a (-1) ((n : Int) - 1) && inR d.b (-1) ((n : Int) - 1) then (if d.a = d.b then 2 else if inR d.flow 0 10000 then 0 else 1) else 3
def doorsErr (n : Nat) : List Do → Int
 | [] => 0
 | d :: ds => if doErr n d = 0 then doorsErr n ds else doErr n d
def doAt (h : Ho) (i : Int) : Do := h.doors.getD i.toNat ⟨0, 0, 0⟩
def sameKey (c b : Co) : Bool := decide (b.tick = c.tick) && decide (b.door = c.door)
def coErr (h : Ho) (before : List Co) (c : Co) : Int :=
 if inR c.tick 0 (h.ticks - 1) then
  if inR c.door 0 ((h.doors.length : Int) - 1) then
   if 0 ≤ (doAt h c.door).a ∧ 0 ≤ (doAt h c.door).b then 8
   else if before.any (sameKey c) then 4
   else if spErr c.i = 0 then spErr c.o else spErr c.i
  else 3
 else 1
def cosErr (h : Ho) : List Co → List Co → Int
 | _, [] => 0
 | bs, c :: cs => if coErr h bs c = 0 then cosErr h (bs ++ [c]) cs else coErr h bs c
def restErr (h : Ho) : Int :=
 if spErr h.first = 0 then (if inR h.ticks 0 12 then (if 24 < h.counts.length then 6 else cosErr h [] h.counts) else 1) else spErr h.first
def houseErr (h : Ho) : Int :=
 if h.holds.length = 0 then 7 else if 4 < h.holds.length then 6 else if h.holds.all (fun n => inR n 0 10000) then
  (if 5 < h.doors.length then 6 else if doorsErr h.holds.length h.doors = 0 then restErr h else doorsErr h.holds.length h.doors) else 1
structure SpOk (x : Sp) : Prop where
 lo0 : 0 ≤ x.lo
 le : x.lo ≤ x.hi
 hi1 : x.hi ≤ 10000
theorem spErr_ok {x : Sp} : spErr x = 0 ↔ SpOk x := by
 unfold spErr
 constructor
 ·intro h
  split at h
  ·rename_i h1
   simp only [Bool.and_eq_true, inR_true] at h1
   split at h
   ·simp at h
   ·exact ⟨by omega, by omega, by omega⟩
  ·simp at h
 ·intro h
  have := h.lo0
  have := h.le
  have := h.hi1
  rw [if_pos (by simp only [Bool.and_eq_true, inR_true]; omega), if_neg (by omega)]
structure DoV (n : Nat) (d : Do) : Prop where
 a0 : -1 ≤ d.a
 a1 : d.a < n
 b0 : -1 ≤ d.b
 b1 : d.b < n
 ne : d.a ≠ d.b
 f0 : 0 ≤ d.flow
 f1 : d.flow ≤ 10000
theorem doErr_ok {n : Nat} {d : Do} : doErr n d = 0 ↔ DoV n d := by
 unfold doErr
 constructor
 ·intro h
  split at h
  ·rename_i h1
   simp only [Bool.and_eq_true, inR_true] at h1
   split at h
   ·simp at h
   ·split at h
    ·rename_i h2
     rw [inR_true] at h2
     exact ⟨by omega, by omega, by omega, by omega, by omega, by omega, by omega⟩
    ·simp at h
  ·simp at h
 ·intro h
  obtain ⟨a0, a1, b0, b1, ne, f0, f1⟩ := h
  rw [if_pos (by simp only [Bool.and_eq_true, inR_true]; omega), if_neg ne, if_pos (by rw [inR_true]; omega)]
theorem doorsErr_ok {n : Nat} : ∀ {ds : List Do}, doorsErr n ds = 0 ↔ ∀ d ∈ ds, DoV n d
 | [] => by simp [doorsErr]
 | d :: ds => by
  rw [doorsErr]
  by_cases h : doErr n d = 0
  ·rw [if_pos h, doorsErr_ok (ds := ds)]
   simp [doErr_ok.1 h]
  ·rw [if_neg h]
   constructor
   ·intro h2; exact absurd h2 h
   ·intro h2; exact absurd (doErr_ok.2 (h2 d (by simp))) h
structure CoV (h : Ho) (c : Co) : Prop where
 t0 : 0 ≤ c.tick
 t1 : c.tick < h.ticks
 d0 : 0 ≤ c.door
 d1 : c.door < h.doors.length
 k : ¬ (0 ≤ (doAt h c.door).a ∧ 0 ≤ (doAt h c.door).b)
 i : SpOk c.i
 o : SpOk c.o
theorem coErr_ok {h : Ho} {bs : List Co} {c : Co} : coErr h bs c = 0 ↔ CoV h c ∧ bs.any (sameKey c) = false := by
 unfold coErr
 constructor
 ·intro e
  split at e
  ·rename_i h1
   rw [inR_true] at h1
   split at e
   ·rename_i h2
    rw [inR_true] at h2
    split at e
    ·simp at e
    ·rename_i h3
     split at e
     ·simp at e
     ·rename_i h4
      split at e
      ·rename_i h5
       exact ⟨⟨by omega, by omega, by omega, by omega, h3, spErr_ok.1 h5, spErr_ok.1 e⟩, by simpa using h4⟩
      ·rename_i h5; exact absurd e h5
   ·simp at e
  ·simp at e
 ·rintro ⟨⟨t0, t1, d0, d1, k, i, o⟩, h4⟩
  rw [if_pos (by rw [inR_true]; omega), if_pos (by rw [inR_true]; omega), if_neg k, h4, if_pos (spErr_ok.2 i)]
  simpa using spErr_ok.2 o
def keysOk : List Co → List Co → Prop
 | _, [] => True
 | bs, c :: cs => bs.any (sameKey c) = false ∧ keysOk (bs ++ [c]) cs
theorem cosErr_ok {h : Ho} : ∀ {cs bs : List Co}, cosErr h bs cs = 0 ↔ (∀ c ∈ cs, CoV h c) ∧ keysOk bs cs
 | [], bs => by simp [cosErr, keysOk]
 | c :: cs, bs => by
  rw [cosErr]
  by_cases e : coErr h bs c = 0
  ·rw [if_pos e, cosErr_ok, keysOk]
   have := coErr_ok.1 e
   simp [this.1, this.2]
  ·rw [if_neg e]
   constructor
   ·intro h2; exact absurd h2 e
   ·rintro ⟨h1, h2⟩
    exact absurd (coErr_ok.2 ⟨h1 c (by simp), h2.1⟩) e
structure HV (h : Ho) : Prop where
 n0 : 1 ≤ h.holds.length
 n1 : h.holds.length ≤ 4
 holds : ∀ n ∈ h.holds, 0 ≤ n ∧ n ≤ 10000
 d1 : h.doors.length ≤ 5
 doors : ∀ d ∈ h.doors, DoV h.holds.length d
 first : SpOk h.first
 t0 : 0 ≤ h.ticks
 t1 : h.ticks ≤ 12
 c1 : h.counts.length ≤ 24
 counts : ∀ c ∈ h.counts, CoV h c
 keys : keysOk [] h.counts
theorem houseErr_ok {h : Ho} : houseErr h = 0 ↔ HV h := by
 unfold houseErr
 constructor
 ·intro e
  split at e
  ·simp at e
  ·split at e
   ·simp at e
   ·split at e
    ·rename_i h1
     split at e
     ·simp at e
     ·split at e
      ·rename_i h2
       unfold restErr at e
       split at e
       ·rename_i h3
        split at e
        ·rename_i h4
         rw [inR_true] at h4
         split at e
         ·simp at e
         ·have h5 := cosErr_ok.1 e
          refine ⟨by omega, by omega, fun n hn => ?_, by omega, doorsErr_ok.1 h2, spErr_ok.1 h3, h4.1, h4.2, by omega, h5.1, h5.2⟩
          have := List.all_eq_true.1 h1 n hn
          rwa [inR_true] at this
        ·simp at e
       ·rename_i h3; exact absurd e h3
      ·rename_i h2; exact absurd e h2
    ·simp at e
 ·rintro ⟨n0, n1, holds, d1, doors, first, t0, t1, c1, counts, keys⟩
  rw [if_neg (by omega), if_neg (by omega), if_pos (List.all_eq_true.2 fun n hn => by rw [inR_true]; exact holds n hn), if_neg (by omega), if_pos (doorsErr_ok.2 doors)]
  unfold restErr
  rw [if_pos (spErr_ok.2 first), if_pos (by rw [inR_true]; omega), if_neg (by omega)]
  exact cosErr_ok.2 ⟨counts, keys⟩
def chg (cs : List Co) (t : Int) : Sp := ⟨((cs.filter fun c => decide (c.tick = t)).map fun c => c.i.lo - c.o.hi).sum, ((cs.filter fun c => decide (c.tick = t)).map fun c => c.i.hi - c.o.lo).sum⟩
def nxt (x c : Sp) : Sp := ⟨max 0 (x.lo + c.lo), x.hi + c.hi⟩
def fwd (first : Sp) (C : Nat → Sp) : Nat → Sp
 | 0 => first
 | t + 1 => nxt (fwd first C t) (C t)
def bad (first : Sp) (C : Nat → Sp) (T : Nat) : Bool := (List.range T).any fun t => decide ((fwd first C (t + 1)).hi < (fwd first C (t + 1)).lo)
def bwd (first : Sp) (C : Nat → Sp) (T : Nat) : Nat → Sp
 | 0 => fwd first C T
 | k + 1 => let x := bwd first C T k; let c := C (T - (k + 1)); let f := fwd first C (T - (k + 1)); ⟨max f.lo (x.lo - c.hi), min f.hi (x.hi - c.lo)⟩
def insideL (first : Sp) (C : Nat → Sp) (T : Nat) : List Sp := (List.range (T + 1)).map fun t => bwd first C T (T - t)
def insideH (h : Ho) : Option (List Sp) := if bad h.first (fun t => chg h.counts t) h.ticks.toNat then none else some (insideL h.first (fun t => chg h.counts t) h.ticks.toNat)
end Go.Proofs.Ytmagiabapakhcaa

/- Flows in numbers: a certificate that a computer checks. -/
namespace Go.Proofs.Ytmagiabapakhcaa
structure Wn where
 fr : Nat
 to : Nat
 most : Nat
 deriving DecidableEq
def Wn.wa (w : Wn) : Wa := ⟨w.fr, w.to, (w.most : Int)⟩
def atN (R : List (List Nat)) (i j : Nat) : Nat := (R.getD i []).getD j 0
def updN (R : List (List Nat)) (i j x : Nat) : List (List Nat) := R.set i ((R.getD i []).set j x)
def zerosN (N : Nat) : List (List Nat) := List.replicate N (List.replicate N 0)
def tabN (N : Nat) (ws : List Wn) : List (List Nat) := ws.foldl (fun R w => updN R w.fr w.to (Nat.add (atN R w.fr w.to) w.most)) (zerosN N)
def intT (R : List (List Nat)) : List (List Int) := R.map fun r => r.map fun n : Nat => (n : Int)
theorem intT_at (R : List (List Nat)) (i j : Nat) : at2 (intT R) i j = ((atN R i j : Nat) : Int) := by
 unfold at2 atN intT
 simp only [List.getD_eq_getElem?_getD, List.getElem?_map]
 cases R[i]? with
 | none => simp
 | some r =>
  simp only [Option.map_some, Option.getD_some, List.getElem?_map]
  cases r[j]? <;> simp
theorem intT_upd (R : List (List Nat)) (i j x : Nat) : intT (updN R i j x) = upd2 (intT R) i j (x : Int) := by
 unfold intT updN upd2
 rw [List.map_set, List.map_set]
 congr 2
 simp only [List.getD_eq_getElem?_getD, List.getElem?_map]
 cases R[i]? <;> simp
theorem intT_tab (N : Nat) (ws : List Wn) : tabOfW N (ws.map Wn.wa) = intT (tabN N ws) := by
 have key : ∀ (ws : List Wn) (R : List (List Nat)), (ws.map Wn.wa).foldl add2 (intT R) = intT (ws.foldl (fun R w => updN R w.fr w.to (Nat.add (atN R w.fr w.to) w.most)) R) := by
  intro ws
  induction ws with
  | nil => intro R; rfl
  | cons w ws ih =>
   intro R
   rw [List.map_cons, List.foldl_cons, List.foldl_cons, ← ih, intT_upd]
   congr 1
   unfold add2 Wn.wa
   simp only [intT_at]
   congr 1
 have h0 : zeros2 N = intT (zerosN N) := by simp [zeros2, zerosN, intT]
 unfold tabOfW tabN
 rw [h0]
 exact key ws _
def rangeB : Nat → (Nat → Bool) → Bool
 | 0, _ => true
 | n + 1, f => (f n).and (rangeB n f)
theorem rangeB_ok {f : Nat → Bool} : ∀ {n : Nat}, rangeB n f = true → ∀ i, i < n → f i = true
 | n + 1, h, i, hi => by
  simp only [rangeB, Bool.and_eq_true] at h
  rcases Nat.lt_succ_iff_lt_or_eq.1 hi with q | rfl
  ·exact rangeB_ok h.2 i q
  ·exact h.1
def sumUp : Nat → (Nat → Nat) → Nat
 | 0, _ => 0
 | n + 1, f => Nat.add (sumUp n f) (f n)
theorem sumUp_int (f : Nat → Nat) : ∀ n, ((sumUp n f : Nat) : Int) = sumTo n fun i => ((f i : Nat) : Int)
 | 0 => rfl
 | n + 1 => by
  rw [sumTo_succ, ← sumUp_int f n]
  rfl
def cutN (N : Nat) (C : List (List Nat)) (S : List Bool) : Nat := sumUp N fun i => cond (S.getD i false) (sumUp N fun j => cond (S.getD j false) 0 (atN C i j)) 0
def certN (N : Nat) (C R : List (List Nat)) (S : List Bool) (v : Nat) : Bool :=
 (rangeB N fun i => rangeB N fun j => Nat.beq (Nat.add (atN R i j) (atN R j i)) (Nat.add (atN C i j) (atN C j i))).and
 ((Nat.beq (sumUp N (atN C 0)) (Nat.add (sumUp N (atN R 0)) v)).and
 ((rangeB N fun i => (Nat.beq i 0).or ((Nat.beq i 1).or (Nat.beq (sumUp N (atN C i)) (sumUp N (atN R i))))).and
 ((S.getD 0 false).and ((!S.getD 1 false).and (Nat.beq (cutN N C S) v)))))
theorem certN_ok {N : Nat} {C R : List (List Nat)} {S : List Bool} {v : Nat} (h : certN N C R S v = true) : MF N (intT C) (v : Int) := by
 unfold certN at h
 simp only [Bool.and_eq_true] at h
 obtain ⟨h1, h2, h3, h4, h5, h6⟩ := h
 refine ⟨⟨intT R, ?_, ?_, ?_, ?_⟩, fun i => S.getD i false, h4, by simpa using h5, ?_⟩
 ·intro i j _ _
  rw [intT_at]; omega
 ·intro i j hi hj
  have := Nat.eq_of_beq_eq_true (rangeB_ok (rangeB_ok h1 i hi) j hj)
  simp only [intT_at]
  have e : atN R i j + atN R j i = atN C i j + atN C j i := this
  omega
 ·rw [sumTo_sub]
  have e : sumUp N (atN C 0) = sumUp N (atN R 0) + v := Nat.eq_of_beq_eq_true h2
  have a := sumUp_int (atN C 0) N
  have b := sumUp_int (atN R 0) N
  rw [show at2 (intT C) 0 = fun j => ((atN C 0 j : Nat) : Int) from funext (intT_at C 0), show at2 (intT R) 0 = fun j => ((atN R 0 j : Nat) : Int) from funext (intT_at R 0)]
  omega
 ·intro i hi h0 h1'
  have := rangeB_ok h3 i hi
  simp only [Bool.or_eq_true] at this
  rcases this with q | q | q
  ·exact absurd (Nat.eq_of_beq_eq_true q) h0
  ·exact absurd (Nat.eq_of_beq_eq_true q) h1'
  ·have e : sumUp N (atN C i) = sumUp N (atN R i) := Nat.eq_of_beq_eq_true q
   have a := sumUp_int (atN C i) N
   have b := sumUp_int (atN R i) N
   rw [sumTo_sub]
   rw [show at2 (intT C) i = fun j => ((atN C i j : Nat) : Int) from funext (intT_at C i), show at2 (intT R) i = fun j => ((atN R i j : Nat) : Int) from funext (intT_at R i)]
   omega
 ·have e : cutN N C S = v := Nat.eq_of_beq_eq_true h6
  rw [← e]
  unfold cutOf cutN
  rw [sumUp_int]
  refine sumTo_congr fun i hi => ?_
  show (sumTo N fun j => if (S.getD i false && !S.getD j false) = true then at2 (intT C) i j else 0) = ((cond (S.getD i false) (sumUp N fun j => cond (S.getD j false) 0 (atN C i j)) 0 : Nat) : Int)
  cases S.getD i false with
  | false =>
   have h0 := sumTo_const0 N
   simpa using h0
  | true =>
   rw [cond_true, sumUp_int]
   refine sumTo_congr fun j hj => ?_
   cases S.getD j false with
   | true => rfl
   | false => exact intT_at C i j
def dfsN (N : Nat) : Nat → List (List Nat) → List Bool → Nat → Nat → List Nat → Nat × List (List Nat) × List Bool
 | 0, R, met, _, _, _ => (0, R, met)
 | _ + 1, R, met, _, _, [] => (0, R, met)
 | f + 1, R, met, a, n, t :: ts =>
  cond ((met.getD t true).or (Nat.beq (atN R a t) 0)) (dfsN N f R met a n ts)
   (cond (Nat.beq t 1) (let k := cond (Nat.ble n (atN R a t)) n (atN R a t); (k, updN (updN R a t (Nat.sub (atN R a t) k)) t a (Nat.add (atN R t a) k), met))
    (match dfsN N f R (met.set t true) t (cond (Nat.ble n (atN R a t)) n (atN R a t)) (List.range N) with
     | (0, _, met') => dfsN N f R met' a n ts
     | (k + 1, R', met') => (k + 1, updN (updN R' a t (Nat.sub (atN R' a t) (k + 1))) t a (Nat.add (atN R' t a) (k + 1)), met')))
def solveN (N : Nat) : Nat → List (List Nat) → Nat → Nat × List (List Nat) × List Bool
 | 0, R, v => (v, R, [])
 | f + 1, R, v => match dfsN N 5000 R ((List.replicate N false).set 0 true) 0 1073741824 (List.range N) with
  | (0, _, met) => (v, R, met)
  | (k + 1, R', _) => solveN N f R' (Nat.add v (k + 1))
def mfN (N : Nat) (ws : List Wn) : Option Nat :=
 match solveN N 200 (tabN N ws) 0 with
 | (v, R, S) => cond (certN N (tabN N ws) R S v) (some v) none
theorem mfN_ok {N : Nat} (hN : 2 ≤ N) {ws : List Wn} {v : Nat} (h : mfN N ws = some v) : mfv N (tabOfW N (ws.map Wn.wa)) = (v : Int) := by
 refine mfv_eq hN ?_
 rw [intT_tab]
 unfold mfN at h
 obtain ⟨⟨v', R, S⟩, hs⟩ : ∃ q, q = solveN N 200 (tabN N ws) 0 := ⟨_, rfl⟩
 rw [← hs] at h
 simp only at h
 cases hc : certN N (tabN N ws) R S v' with
 | false => rw [hc] at h; cases h
 | true =>
  rw [hc] at h
  cases h
  exact certN_ok hc
def Wa.wn (w : Wa) : Wn := ⟨w.fr, w.to, w.most.toNat⟩
theorem mfW_ok {N : Nat} (hN : 2 ≤ N) {ws : List Wa} {v : Nat} (h0 : ∀ w ∈ ws, 0 ≤ w.most) (h : mfN N (ws.map Wa.wn) = some v) : mfv N (tabOfW N ws) = (v : Int) := by
 have e : ws = (ws.map Wa.wn).map Wn.wa := by
  rw [List.map_map]
  conv => lhs; rw [← List.map_id ws]
  refine List.map_congr_left fun w hw => ?_
  have := h0 w hw
  cases w with
  | mk a b m =>
   simp only [Function.comp, Wa.wn, Wn.wa, id]
   congr 1
   exact (Int.toNat_of_nonneg this).symm
 rw [e]
 exact mfN_ok hN h
end Go.Proofs.Ytmagiabapakhcaa
