/- A part of the proofs about the chapter of the ramps; it states no condition of its own. -/
import Derived.Test.YtmiiipdgbkipjaaGreatDoorB13
import Derived.Test.YtmiiipdgbkipjaaGreatDoorB14
set_option linter.unusedVariables false
set_option linter.unusedSimpArgs false
open Int renaming reduceLE → zA, reduceLT → zB, reduceToNat → zC, reduceNeg → zD
open Nat renaming reduceLT → zE, reduceEqDiff → zF, reduceAdd → zG, reduceSub → zH, reduceMul → zI, reduceLeDiff → zJ
/- Yards and plans, plain: their errors. -/
namespace Go.Proofs.YtmiiipdgbkipjaaGreatDoor
def dawnB (n : Int) : Bool := inR n 0 480
def raErr (r : Ra) : Int := if dawnB r.open_ && dawnB r.shut then (if r.shut < r.open_ then 5 else if inR r.bears 0 1000000 then 0 else 1) else 1
def rasErr : List Ra → Int
 | [] => 0
 | x :: xs => if raErr x = 0 then rasErr xs else raErr x
def crErr (nr : Nat) : Int → List Int → Int
 | _, [] => 0
 | p, r :: rs => if inR r 0 ((nr : Int) - 1) then (if r ≤ p then 5 else crErr nr r rs) else 3
def ctErr (nr : Nat) (c : Ct) : Int :=
 if dawnB c.from_ && dawnB c.until_ then (if c.until_ < c.from_ then 5 else if inR c.takes.lo 1 480 && inR c.takes.hi 1 480 then (if c.takes.hi < c.takes.lo then 5 else if inR c.grams 0 1000000 then crErr nr (-1) c.ramps else 1) else 1) else 1
def ctsErr (nr : Nat) : List Ct → Int
 | [] => 0
 | x :: xs => if ctErr nr x = 0 then ctsErr nr xs else ctErr nr x
def yErr (y : Ya) : Int :=
 if y.ramps.length = 0 then 7 else if 3 < y.ramps.length then 6 else if rasErr y.ramps = 0 then (if 7 < y.carts.length then 6 else if ctsErr y.ramps.length y.carts = 0 then (if dawnB y.sweep then 0 else 1) else ctsErr y.ramps.length y.carts) else rasErr y.ramps
theorem drop_at {α : Type} {l : List α} {i : Nat} (h : i < l.length) : l.drop i = l[i] :: l.drop (i + 1) := List.drop_eq_getElem_cons h
theorem rasErr_at {l : List Ra} {i : Nat} (h : i < l.length) : rasErr (l.drop i) = if raErr l[i] = 0 then rasErr (l.drop (i + 1)) else raErr l[i] := by rw [drop_at h, rasErr]
theorem ctsErr_at {n : Nat} {l : List Ct} {i : Nat} (h : i < l.length) : ctsErr n (l.drop i) = if ctErr n l[i] = 0 then ctsErr n (l.drop (i + 1)) else ctErr n l[i] := by rw [drop_at h, ctsErr]
def prevOf (l : List Int) (i : Nat) : Int := if i = 0 then -1 else l.getD (i - 1) 0
theorem crErr_at {n : Nat} {l : List Int} {i : Nat} (h : i < l.length) : crErr n (prevOf l i) (l.drop i) = if inR l[i] 0 ((n : Int) - 1) then (if l[i] ≤ prevOf l i then 5 else crErr n (prevOf l (i + 1)) (l.drop (i + 1))) else 3 := by
 rw [drop_at h, crErr]
 have : prevOf l (i + 1) = l[i] := by simp [prevOf, h]
 rw [this]

structure RaV (r : Ra) : Prop where
 o0 : 0 ≤ r.open_
 os : r.open_ ≤ r.shut
 s1 : r.shut ≤ 480
 b0 : 0 ≤ r.bears
 b1 : r.bears ≤ 1000000
structure CtV (nr : Nat) (c : Ct) : Prop where
 f0 : 0 ≤ c.from_
 fu : c.from_ ≤ c.until_
 u1 : c.until_ ≤ 480
 l0 : 1 ≤ c.takes.lo
 lh : c.takes.lo ≤ c.takes.hi
 h1 : c.takes.hi ≤ 480
 g0 : 0 ≤ c.grams
 g1 : c.grams ≤ 1000000
 r : ∀ x ∈ c.ramps, 0 ≤ x ∧ x < nr
 asc : c.ramps.Pairwise (· < ·)
structure YaV (y : Ya) : Prop where
 n0 : 1 ≤ y.ramps.length
 n1 : y.ramps.length ≤ 3
 ra : ∀ r ∈ y.ramps, RaV r
 m1 : y.carts.length ≤ 7
 ct : ∀ c ∈ y.carts, CtV y.ramps.length c
 s0 : 0 ≤ y.sweep
 s1 : y.sweep ≤ 480
theorem raErr_ok {r : Ra} : raErr r = 0 ↔ RaV r := by
 unfold raErr dawnB
 constructor
 ·intro h
  split at h
  ·rename_i h1
   simp only [Bool.and_eq_true, inR_true] at h1
   split at h
   ·omega
   ·split at h
    ·rename_i h2 h3
     rw [inR_true] at h3
     exact ⟨by omega, by omega, by omega, by omega, by omega⟩
    ·omega
  ·omega
 ·intro ⟨a, b, c, d, e⟩
  rw [if_pos (by simp only [Bool.and_eq_true, inR_true]; omega), if_neg (by omega), if_pos (by rw [inR_true]; omega)]
theorem rasErr_ok {l : List Ra} : rasErr l = 0 ↔ ∀ r ∈ l, RaV r := by
 induction l with
 | nil => simp [rasErr]
 | cons x l ih =>
  rw [rasErr]
  by_cases h : raErr x = 0
  ·rw [if_pos h, ih]
   rw [raErr_ok] at h
   simp [h]
  ·rw [if_neg h]
   constructor
   ·intro h'; exact absurd h' h
   ·intro h'; exact absurd (raErr_ok.2 (h' x (by simp))) h
theorem crErr_ok {nr : Nat} : ∀ {l : List Int} {p : Int}, -1 ≤ p → (crErr nr p l = 0 ↔ (∀ x ∈ l, p < x ∧ x < nr) ∧ l.Pairwise (· < ·))
 | [], p, _ => by simp [crErr]
 | r :: l, p, hp => by
  rw [crErr]
  by_cases h1 : inR r 0 ((nr : Int) - 1) = true
  ·rw [if_pos h1]
   rw [inR_true] at h1
   by_cases h2 : r ≤ p
   ·rw [if_pos h2]
    constructor
    ·intro h; omega
    ·intro ⟨h, _⟩; have := h r (by simp); omega
   ·rw [if_neg h2, crErr_ok (by omega)]
    constructor
    ·intro ⟨h3, h4⟩
     refine ⟨fun x hx => ?_, List.pairwise_cons.2 ⟨fun x hx => (h3 x hx).1, h4⟩⟩
     rcases List.mem_cons.1 hx with rfl | hx
     ·omega
     ·have := h3 x hx; omega
    ·intro ⟨h3, h4⟩
     obtain ⟨h5, h6⟩ := List.pairwise_cons.1 h4
     exact ⟨fun x hx => ⟨h5 x hx, (h3 x (List.mem_cons_of_mem _ hx)).2⟩, h6⟩
  ·rw [if_neg h1]
   constructor
   ·intro h; omega
   ·intro ⟨h, _⟩
    have := h r (by simp)
    exact absurd (inR_true.2 (by omega)) h1
theorem ctErr_ok {nr : Nat} {c : Ct} : ctErr nr c = 0 ↔ CtV nr c := by
 unfold ctErr dawnB
 constructor
 ·intro h
  split at h
  ·rename_i h1
   simp only [Bool.and_eq_true, inR_true] at h1
   split at h
   ·omega
   ·split at h
    ·rename_i h2 h3
     simp only [Bool.and_eq_true, inR_true] at h3
     split at h
     ·omega
     ·split at h
      ·rename_i h4 h5
       rw [inR_true] at h5
       rw [crErr_ok (by omega)] at h
       exact ⟨by omega, by omega, by omega, by omega, by omega, by omega, by omega, by omega, fun x hx => by have := h.1 x hx; omega, h.2⟩
      ·omega
    ·omega
  ·omega
 ·intro ⟨a, b, c, d, e, f, g, i, j, k⟩
  rw [if_pos (by simp only [Bool.and_eq_true, inR_true]; omega), if_neg (by omega), if_pos (by simp only [Bool.and_eq_true, inR_true]; omega), if_neg (by omega), if_pos (by rw [inR_true]; omega), crErr_ok (by omega)]
  exact ⟨fun x hx => by have := j x hx; omega, k⟩
theorem ctsErr_ok {n : Nat} {l : List Ct} : ctsErr n l = 0 ↔ ∀ r ∈ l, CtV n r := by
 induction l with
 | nil => simp [ctsErr]
 | cons x l ih =>
  rw [ctsErr]
  by_cases h : ctErr n x = 0
  ·rw [if_pos h, ih]
   rw [ctErr_ok] at h
   simp [h]
  ·rw [if_neg h]
   constructor
   ·intro h'; exact absurd h' h
   ·intro h'; exact absurd (ctErr_ok.2 (h' x (by simp))) h
theorem yErr_ok {y : Ya} : yErr y = 0 ↔ YaV y := by
 unfold yErr dawnB
 constructor
 ·intro h
  split at h
  ·omega
  ·split at h
   ·omega
   ·split at h
    ·rename_i h1 h2 h3
     split at h
     ·omega
     ·split at h
      ·rename_i h4 h5
       split at h
       ·rename_i h6
        rw [inR_true] at h6
        exact ⟨by omega, by omega, rasErr_ok.1 h3, by omega, ctsErr_ok.1 h5, h6.1, h6.2⟩
       ·omega
      ·rename_i h5; exact absurd h h5
    ·rename_i h3; exact absurd h h3
 ·intro ⟨a, b, c, d, e, f, g⟩
  rw [if_neg (by omega), if_neg (by omega), if_pos (rasErr_ok.2 c), if_neg (by omega), if_pos (ctsErr_ok.2 e), if_pos (by rw [inR_true]; omega)]
end Go.Proofs.YtmiiipdgbkipjaaGreatDoor

/- The program's check of yards, on values. (Vm) -/
namespace Go.Proofs.YtmiiipdgbkipjaaGreatDoor.Vm
open Go Go.Proofs
theorem fn_call1 {f : Nat} {fn : Func} {args : List VV} {M : Mem} {Q : VV → Mem → Prop} (hf : T.fn f = some fn) (hk : T.keeps f = false) (h : VC Tryz.prog f (args.map strip1) M Q) : VCall Tryz.prog (.fn (.func f) [] []) args M Q := fn_call hf hk h
theorem in_v (n lo hi : Int) (M : Mem) : VC Tryz.prog 71 [vi n, vi lo, vi hi] M (fun r M' => M' = M ∧ r = vb (inR n lo hi)) := by
 refine VC_own' T_ok (f := 71) (fn := Tryz.f71) (by kernel_rfl) rfl Tryz.ntmps71 (by rfl) (by rfl) ?_
 ((repeat refine Ws ?_);refine Wr ?_)
 simp (maxSteps := 1000000) only [VL,VM,↓VG,reduceIte,reduceCtorEq,zA,zB,zC,zD,zE,zF,zG,zH,zI,zJ]
 ((repeat refine Ws ?_);refine Wr ?_)
 by_cases h1 : lo ≤ n
 ·by_cases h2 : n ≤ hi
  ·simp (maxSteps := 1000000) only [VL,VM,↓VG,reduceIte,reduceCtorEq,zA,zB,zC,zD,zE,zF,zG,zH,zI,zJ, h1, h2]
   (repeat refine Ws ?_)
   refine W_ret ?_
   try simp only [thenQ, blockQ]
   refine own_ret10 rfl ?_ (by rfl)
   simp only [get_cons, frz, vtup, Nat.reduceEqDiff, if_true, if_false, reduceIte]
   rw [inR_true.2 ⟨h1, h2⟩]
  ·simp (maxSteps := 1000000) only [VL,VM,↓VG,reduceIte,reduceCtorEq,zA,zB,zC,zD,zE,zF,zG,zH,zI,zJ, h1, h2]
   (repeat refine Ws ?_)
   refine W_ret ?_
   try simp only [thenQ, blockQ]
   refine own_ret10 rfl ?_ (by rfl)
   simp only [get_cons, frz, vtup, Nat.reduceEqDiff, if_true, if_false, reduceIte]
   simp [inR, h1, h2]
 ·simp (maxSteps := 1000000) only [VL,VM,↓VG,reduceIte,reduceCtorEq,zA,zB,zC,zD,zE,zF,zG,zH,zI,zJ, h1]
  (repeat refine Ws ?_)
  refine W_ret ?_
  try simp only [thenQ, blockQ]
  refine own_ret10 rfl ?_ (by rfl)
  simp only [get_cons, frz, vtup, Nat.reduceEqDiff, if_true, if_false, reduceIte]
  simp [inR, h1]
theorem any_take {α : Type} (p : α → Bool) (l : List α) (i : Nat) (x : α) (h : l[i]? = some x) : (l.take (i + 1)).any p = ((l.take i).any p || p x) := by
 rw [List.take_add_one, h]
 simp
theorem any_hit {α : Type} (p : α → Bool) (l : List α) (i : Nat) (x : α) (h : l[i]? = some x) (hp : p x = true) : l.any p = true := List.any_eq_true.2 ⟨x, List.mem_of_getElem? h, hp⟩
theorem indexints_v (fv : VV) (xs : List Int) (p : Int → Bool) (M : Mem) (hl : xs.length ≤ 1000000) (hf : ∀ x ∈ xs, VCall Tryz.prog fv [vi x] M (fun r M' => M' = M ∧ r = vb (p x))) :
  VC Tryz.prog 85 [intsV xs, fv] M (fun r M' => M' = M ∧ ∃ k : Int, r = vi k ∧ decide (0 ≤ k) = xs.any p) := by
 refine VC_own' T_ok (f := 85) (fn := Tryz.f85) (by kernel_rfl) rfl Tryz.ntmps85 (by rfl) (by rfl) ?_
 ((repeat refine Ws ?_);refine Wr ?_)
 simp (maxSteps := 1000000) only [VL,VM,↓VG,reduceIte,reduceCtorEq,zA,zB,zC,zD,zE,zF,zG,zH,zI,zJ]
 ((repeat refine Ws ?_);refine Wr ?_)
 simp (maxSteps := 1000000) only [VL,VM,↓VG,reduceIte,reduceCtorEq,zA,zB,zC,zD,zE,zF,zG,zH,zI,zJ]
 ((repeat refine Ws ?_);refine W_block ?_; (repeat refine Ws ?_)); refine W_loopS (fun i : Nat => [(0, intsV xs), (1, fv), (7, vi xs.length), (8, vi i)]) (fun _ => M) (fun i => xs.length - i) (fun i => i ≤ xs.length ∧ (xs.take i).any p = false) 0 ⟨by omega, by simp⟩ ⟨rfl, rfl, rfl, rfl, trivial⟩ rfl ?_
 rintro i ⟨hi, hno⟩
 have k1 : -9223372036854775808 ≤ (i : Int) + 1 ∧ (i : Int) + 1 < 9223372036854775808 := by omega
 ((repeat refine Ws ?_);refine Wr ?_)
 rcases Nat.lt_or_ge i xs.length with hlt | hge
 ·have k2 : ((i : Int) < (xs.length : Int)) = True := eq_true (by omega)
  have hx : xs[i]? = some xs[i] := List.getElem?_eq_getElem hlt
  have hx' := map_at (f := intP) hx
  simp (maxSteps := 1000000) only [VL,VM,↓VG,reduceIte,reduceCtorEq,zA,zB,zC,zD,zE,zF,zG,zH,zI,zJ, k1, k2, hx']
  ((repeat refine Ws ?_);refine Wt (by first|rfl|simp only [EV,zF,reduceIte]) ?_)
  ((repeat refine Ws ?_);refine W_skip ?_)
  simp (maxSteps := 1000000) only [VL,VM,↓VG,reduceIte,reduceCtorEq,zA,zB,zC,zD,zE,zF,zG,zH,zI,zJ]
  ((repeat refine Ws ?_);refine W_block ?_)
  ((repeat refine Ws ?_);refine Wr ?_)
  simp (maxSteps := 1000000) only [VL,VM,↓VG,reduceIte,reduceCtorEq,zA,zB,zC,zD,zE,zF,zG,zH,zI,zJ]
  ((repeat refine Ws ?_);refine Wr ?_)
  simp (maxSteps := 1000000) only [VL,VM,↓VG,reduceIte,reduceCtorEq,zA,zB,zC,zD,zE,zF,zG,zH,zI,zJ, hx']
  refine (hf _ (List.getElem_mem hlt)).mono ?_
  rintro _ _ ⟨rfl, rfl⟩
  simp (maxSteps := 1000000) only [VL,VM,↓VG,reduceIte,reduceCtorEq,zA,zB,zC,zD,zE,zF,zG,zH,zI,zJ]
  cases hp : p xs[i]
  ·((repeat refine Ws ?_);refine Wf (by first|rfl|simp only [EV,zF,reduceIte]) ?_)
   ((repeat refine Ws ?_);refine W_skip ?_)
   simp (maxSteps := 1000000) only [VL,VM,↓VG,reduceIte,reduceCtorEq,zA,zB,zC,zD,zE,zF,zG,zH,zI,zJ]
   ((repeat refine Ws ?_);refine Wr ?_)
   simp (maxSteps := 1000000) only [VL,VM,↓VG,reduceIte,reduceCtorEq,zA,zB,zC,zD,zE,zF,zG,zH,zI,zJ, k1]
   refine LoopK.mk (i + 1) (by omega) ⟨by omega, ?_⟩ ⟨rfl, rfl, rfl, rfl, trivial⟩ rfl
   rw [any_take p xs i _ hx, hno, hp]; rfl
  ·((repeat refine Ws ?_);refine Wt (by first|rfl|simp only [EV,zF,reduceIte]) ?_)
   ((repeat refine Ws ?_);refine Wr ?_)
   simp (maxSteps := 1000000) only [VL,VM,↓VG,reduceIte,reduceCtorEq,zA,zB,zC,zD,zE,zF,zG,zH,zI,zJ]
   (repeat refine Ws ?_)
   refine W_ret ?_
   try simp only [thenQ, blockQ]
   refine own_ret0 rfl rfl rfl ⟨rfl, (i : Int), rfl, ?_⟩
   rw [any_hit p xs i _ hx hp]; simp
 ·have k2 : ((i : Int) < (xs.length : Int)) = False := eq_false (by omega)
  simp (maxSteps := 1000000) only [VL,VM,↓VG,reduceIte,reduceCtorEq,zA,zB,zC,zD,zE,zF,zG,zH,zI,zJ, k1, k2]
  ((repeat refine Ws ?_);refine Wf (by first|rfl|simp only [EV,zF,reduceIte]) ?_)
  ((repeat refine Ws ?_);refine W_exit ?_)
  simp (maxSteps := 1000000) only [VL,VM,↓VG,reduceIte,reduceCtorEq,zA,zB,zC,zD,zE,zF,zG,zH,zI,zJ]
  ((repeat refine Ws ?_);refine Wr ?_)
  simp (maxSteps := 1000000) only [VL,VM,↓VG,reduceIte,reduceCtorEq,zA,zB,zC,zD,zE,zF,zG,zH,zI,zJ]
  (repeat refine Ws ?_)
  refine W_ret ?_
  try simp only [thenQ, blockQ]
  refine own_ret0 rfl rfl rfl ⟨rfl, -1, rfl, ?_⟩
  rw [List.take_of_length_le hge] at hno
  rw [hno]; rfl
theorem containsints_v (fv : VV) (xs : List Int) (p : Int → Bool) (M : Mem) (hl : xs.length ≤ 1000000) (hs : strip1 fv = fv) (hf : ∀ x ∈ xs, VCall Tryz.prog fv [vi x] M (fun r M' => M' = M ∧ r = vb (p x))) :
  VC Tryz.prog 72 [intsV xs, fv] M (fun r M' => M' = M ∧ r = vb (xs.any p)) := by
 refine VC_own' T_ok (f := 72) (fn := Tryz.f72) (by kernel_rfl) rfl Tryz.ntmps72 (by rfl) (by rfl) ?_
 ((repeat refine Ws ?_);refine Wr ?_)
 simp (maxSteps := 1000000) only [VL,VM,↓VG,reduceIte,reduceCtorEq,zA,zB,zC,zD,zE,zF,zG,zH,zI,zJ]
 ((repeat refine Ws ?_);refine Wr ?_)
 simp (maxSteps := 1000000) only [VL,VM,↓VG,reduceIte,reduceCtorEq,zA,zB,zC,zD,zE,zF,zG,zH,zI,zJ]
 refine fn_call1 (f := 85) (fn := Tryz.f85) (by kernel_rfl) (by rfl) ?_
 rw [show List.map strip1 [intsV xs, fv] = [intsV xs, fv] by rw [List.map_cons, List.map_cons, hs]; rfl]
 refine (indexints_v fv xs p M hl hf).mono ?_
 rintro _ _ ⟨rfl, k, rfl, hk⟩
 simp (maxSteps := 1000000) only [VL,VM,↓VG,reduceIte,reduceCtorEq,zA,zB,zC,zD,zE,zF,zG,zH,zI,zJ]
 (repeat refine Ws ?_)
 refine W_ret ?_
 try simp only [thenQ, blockQ]
 refine own_ret10 rfl ?_ (by rfl)
 simp only [get_cons, frz, vtup, Nat.reduceEqDiff, if_true, if_false, reduceIte]
 rw [hk]
theorem dawn1_v (n : Int) (M : Mem) : VC Tryz.prog 73 [vi n] M (fun r M' => M' = M ∧ r = vb (!dawnB n)) := by
 refine VC_own' T_ok (f := 73) (fn := Tryz.f73) (by kernel_rfl) rfl Tryz.ntmps73 (by rfl) (by rfl) ?_
 ((repeat refine Ws ?_);refine Wr ?_)
 simp (maxSteps := 1000000) only [VL,VM,↓VG,reduceIte,reduceCtorEq,zA,zB,zC,zD,zE,zF,zG,zH,zI,zJ]
 ((repeat refine Ws ?_);refine Wr ?_)
 simp (maxSteps := 1000000) only [VL,VM,↓VG,reduceIte,reduceCtorEq,zA,zB,zC,zD,zE,zF,zG,zH,zI,zJ]
 apply call_eq (f := 71) (fn := Tryz.f71) (by kernel_rfl) (by rfl)
 ·exact in_v _ _ _ _
 simp (maxSteps := 1000000) only [VL,VM,↓VG,reduceIte,reduceCtorEq,zA,zB,zC,zD,zE,zF,zG,zH,zI,zJ]
 (repeat refine Ws ?_)
 refine W_ret ?_
 try simp only [thenQ, blockQ]
 refine own_ret10 rfl ?_ (by rfl)
 simp only [get_cons, frz, vtup, Nat.reduceEqDiff, if_true, if_false, reduceIte]
 rfl
theorem dawn_v (l : List Int) (M : Mem) (hl : l.length ≤ 1000000) : VC Tryz.prog 57 [intsV l] M (fun r M' => M' = M ∧ r = vb (l.all dawnB)) := by
 refine VC_own' T_ok (f := 57) (fn := Tryz.f57) (by kernel_rfl) rfl Tryz.ntmps57 (by rfl) (by rfl) ?_
 ((repeat refine Ws ?_);refine Wr ?_)
 simp (maxSteps := 1000000) only [VL,VM,↓VG,reduceIte,reduceCtorEq,zA,zB,zC,zD,zE,zF,zG,zH,zI,zJ]
 ((repeat refine Ws ?_);refine Wr ?_)
 simp (maxSteps := 1000000) only [VL,VM,↓VG,reduceIte,reduceCtorEq,zA,zB,zC,zD,zE,zF,zG,zH,zI,zJ]
 apply call_eq (f := 72) (fn := Tryz.f72) (by kernel_rfl) (by rfl)
 ·exact containsints_v _ l (fun n => !dawnB n) _ hl rfl (fun x _ => call_eq (f := 73) (fn := Tryz.f73) (by kernel_rfl) (by rfl) (args := [vi x]) (dawn1_v x M) ⟨rfl, rfl⟩)
 simp (maxSteps := 1000000) only [VL,VM,↓VG,reduceIte,reduceCtorEq,zA,zB,zC,zD,zE,zF,zG,zH,zI,zJ]
 (repeat refine Ws ?_)
 refine W_ret ?_
 try simp only [thenQ, blockQ]
 refine own_ret10 rfl ?_ (by rfl)
 simp only [get_cons, frz, vtup, Nat.reduceEqDiff, if_true, if_false, reduceIte]
 rw [List.all_eq_not_any_not]
theorem dawn_2 (a b : Int) (M : Mem) : VC Tryz.prog 57 [intsV [a, b]] M (fun r M' => M' = M ∧ r = vb (dawnB a && dawnB b)) := by
 have := dawn_v [a, b] M (by simp)
 simpa using this
theorem dawn_1 (a : Int) (M : Mem) : VC Tryz.prog 57 [intsV [a]] M (fun r M' => M' = M ∧ r = vb (dawnB a)) := by
 have := dawn_v [a] M (by simp)
 simpa using this
theorem checkRamp_v (r : Ra) (M : Mem) : VC Tryz.prog 55 [raV r] M (fun x M' => M' = M ∧ x = vi (raErr r)) := by
 have e1 : raErr r = raErr r := rfl
 conv at e1 => rhs; unfold raErr
 refine VC_own' T_ok (f := 55) (fn := Tryz.f55) (by kernel_rfl) rfl Tryz.ntmps55 (by rfl) (by rfl) ?_
 ((repeat refine Ws ?_);refine Wr ?_)
 simp (maxSteps := 1000000) only [VL,VM,↓VG,reduceIte,reduceCtorEq,zA,zB,zC,zD,zE,zF,zG,zH,zI,zJ]
 ((repeat refine Ws ?_);refine W_block ?_)
 ((repeat refine Ws ?_);refine Wr ?_)
 simp (maxSteps := 1000000) only [VL,VM,↓VG,reduceIte,reduceCtorEq,zA,zB,zC,zD,zE,zF,zG,zH,zI,zJ]
 apply call_eq (f := 57) (fn := Tryz.f57) (by kernel_rfl) (by rfl)
 ·exact dawn_2 r.open_ r.shut _
 cases h1 : dawnB r.open_ && dawnB r.shut
 ·rw [h1] at e1
  simp (maxSteps := 1000000) only [VL,VM,↓VG,reduceIte,reduceCtorEq,zA,zB,zC,zD,zE,zF,zG,zH,zI,zJ]
  ((repeat refine Ws ?_);refine Wt (by first|rfl|simp only [EV,zF,reduceIte]) ?_)
  ((repeat refine Ws ?_);refine Wr ?_)
  simp (maxSteps := 1000000) only [VL,VM,↓VG,reduceIte,reduceCtorEq,zA,zB,zC,zD,zE,zF,zG,zH,zI,zJ]
  (repeat refine Ws ?_)
  refine W_ret ?_
  try simp only [thenQ, blockQ]
  refine own_ret1 rfl ?_ (by rfl)
  simp only [get_cons, frz, vtup, Nat.reduceEqDiff, if_true, if_false, reduceIte]
  rw [e1]; rfl
 rw [h1, if_pos rfl] at e1
 simp (maxSteps := 1000000) only [VL,VM,↓VG,reduceIte,reduceCtorEq,zA,zB,zC,zD,zE,zF,zG,zH,zI,zJ]
 ((repeat refine Ws ?_);refine Wf (by first|rfl|simp only [EV,zF,reduceIte]) ?_)
 ((repeat refine Ws ?_);refine Wr ?_)
 by_cases h2 : r.shut < r.open_
 ·rw [if_pos h2] at e1
  simp (maxSteps := 1000000) only [VL,VM,↓VG,reduceIte,reduceCtorEq,zA,zB,zC,zD,zE,zF,zG,zH,zI,zJ, h2]
  ((repeat refine Ws ?_);refine Wt (by first|rfl|simp only [EV,zF,reduceIte]) ?_)
  ((repeat refine Ws ?_);refine Wr ?_)
  simp (maxSteps := 1000000) only [VL,VM,↓VG,reduceIte,reduceCtorEq,zA,zB,zC,zD,zE,zF,zG,zH,zI,zJ]
  (repeat refine Ws ?_)
  refine W_ret ?_
  try simp only [thenQ, blockQ]
  refine own_ret1 rfl ?_ (by rfl)
  simp only [get_cons, frz, vtup, Nat.reduceEqDiff, if_true, if_false, reduceIte]
  rw [e1]
 rw [if_neg h2] at e1
 simp (maxSteps := 1000000) only [VL,VM,↓VG,reduceIte,reduceCtorEq,zA,zB,zC,zD,zE,zF,zG,zH,zI,zJ, h2]
 ((repeat refine Ws ?_);refine Wf (by first|rfl|simp only [EV,zF,reduceIte]) ?_)
 ((repeat refine Ws ?_);refine Wr ?_)
 simp (maxSteps := 1000000) only [VL,VM,↓VG,reduceIte,reduceCtorEq,zA,zB,zC,zD,zE,zF,zG,zH,zI,zJ]
 apply call_eq (f := 71) (fn := Tryz.f71) (by kernel_rfl) (by rfl)
 ·exact in_v _ _ _ _
 cases h3 : inR r.bears 0 1000000
 ·rw [h3] at e1
  simp (maxSteps := 1000000) only [VL,VM,↓VG,reduceIte,reduceCtorEq,zA,zB,zC,zD,zE,zF,zG,zH,zI,zJ]
  ((repeat refine Ws ?_);refine Wt (by first|rfl|simp only [EV,zF,reduceIte]) ?_)
  ((repeat refine Ws ?_);refine Wr ?_)
  simp (maxSteps := 1000000) only [VL,VM,↓VG,reduceIte,reduceCtorEq,zA,zB,zC,zD,zE,zF,zG,zH,zI,zJ]
  (repeat refine Ws ?_)
  refine W_ret ?_
  try simp only [thenQ, blockQ]
  refine own_ret1 rfl ?_ (by rfl)
  simp only [get_cons, frz, vtup, Nat.reduceEqDiff, if_true, if_false, reduceIte]
  rw [e1]; rfl
 rw [h3, if_pos rfl] at e1
 simp (maxSteps := 1000000) only [VL,VM,↓VG,reduceIte,reduceCtorEq,zA,zB,zC,zD,zE,zF,zG,zH,zI,zJ]
 ((repeat refine Ws ?_);refine Wf (by first|rfl|simp only [EV,zF,reduceIte]) ?_)
 ((repeat refine Ws ?_);refine W_skip ?_)
 simp (maxSteps := 1000000) only [VL,VM,↓VG,reduceIte,reduceCtorEq,zA,zB,zC,zD,zE,zF,zG,zH,zI,zJ]
 ((repeat refine Ws ?_);refine Wr ?_)
 simp (maxSteps := 1000000) only [VL,VM,↓VG,reduceIte,reduceCtorEq,zA,zB,zC,zD,zE,zF,zG,zH,zI,zJ]
 (repeat refine Ws ?_)
 refine W_ret ?_
 try simp only [thenQ, blockQ]
 refine own_ret1 rfl ?_ (by rfl)
 simp only [get_cons, frz, vtup, Nat.reduceEqDiff, if_true, if_false, reduceIte]
 rw [e1]
end Go.Proofs.YtmiiipdgbkipjaaGreatDoor.Vm

/- The program's check of carts, on values. (Vm) -/
namespace Go.Proofs.YtmiiipdgbkipjaaGreatDoor.Vm
open Go Go.Proofs
theorem checkCart_v (y : Ya) (c : Ct) (M : Mem) (hn : y.ramps.length ≤ 1000000) (hl : c.ramps.length ≤ 1000000) : VC Tryz.prog 56 [yardV y, ctV c] M (fun x M' => M' = M ∧ x = vi (ctErr y.ramps.length c)) := by
 have e1 : ctErr y.ramps.length c = ctErr y.ramps.length c := rfl
 conv at e1 => rhs; unfold ctErr
 have k0 : -9223372036854775808 ≤ (y.ramps.length : Int) - 1 ∧ (y.ramps.length : Int) - 1 < 9223372036854775808 := by omega
 refine VC_own' T_ok (f := 56) (fn := Tryz.f56) (by kernel_rfl) rfl Tryz.ntmps56 (by rfl) (by rfl) ?_
 ((repeat refine Ws ?_);refine Wr ?_)
 simp (maxSteps := 1000000) only [VL,VM,↓VG,reduceIte,reduceCtorEq,zA,zB,zC,zD,zE,zF,zG,zH,zI,zJ]
 ((repeat refine Ws ?_);refine W_block ?_)
 ((repeat refine Ws ?_);refine Wr ?_)
 simp (maxSteps := 1000000) only [VL,VM,↓VG,reduceIte,reduceCtorEq,zA,zB,zC,zD,zE,zF,zG,zH,zI,zJ]
 apply call_eq (f := 57) (fn := Tryz.f57) (by kernel_rfl) (by rfl)
 ·exact dawn_2 c.from_ c.until_ _
 cases h1 : dawnB c.from_ && dawnB c.until_
 ·rw [h1] at e1
  simp (maxSteps := 1000000) only [VL,VM,↓VG,reduceIte,reduceCtorEq,zA,zB,zC,zD,zE,zF,zG,zH,zI,zJ]
  ((repeat refine Ws ?_);refine Wt (by first|rfl|simp only [EV,zF,reduceIte]) ?_)
  ((repeat refine Ws ?_);refine Wr ?_)
  simp (maxSteps := 1000000) only [VL,VM,↓VG,reduceIte,reduceCtorEq,zA,zB,zC,zD,zE,zF,zG,zH,zI,zJ]
  (repeat refine Ws ?_)
  refine W_ret ?_
  try simp only [thenQ, blockQ]
  refine own_ret1 rfl ?_ (by rfl)
  simp only [get_cons, frz, vtup, Nat.reduceEqDiff, if_true, if_false, reduceIte]
  rw [e1]; rfl
 rw [h1, if_pos rfl] at e1
 simp (maxSteps := 1000000) only [VL,VM,↓VG,reduceIte,reduceCtorEq,zA,zB,zC,zD,zE,zF,zG,zH,zI,zJ]
 ((repeat refine Ws ?_);refine Wf (by first|rfl|simp only [EV,zF,reduceIte]) ?_)
 ((repeat refine Ws ?_);refine Wr ?_)
 by_cases h2 : c.until_ < c.from_
 ·rw [if_pos h2] at e1
  simp (maxSteps := 1000000) only [VL,VM,↓VG,reduceIte,reduceCtorEq,zA,zB,zC,zD,zE,zF,zG,zH,zI,zJ, h2]
  ((repeat refine Ws ?_);refine Wt (by first|rfl|simp only [EV,zF,reduceIte]) ?_)
  ((repeat refine Ws ?_);refine Wr ?_)
  simp (maxSteps := 1000000) only [VL,VM,↓VG,reduceIte,reduceCtorEq,zA,zB,zC,zD,zE,zF,zG,zH,zI,zJ]
  (repeat refine Ws ?_)
  refine W_ret ?_
  try simp only [thenQ, blockQ]
  refine own_ret1 rfl ?_ (by rfl)
  simp only [get_cons, frz, vtup, Nat.reduceEqDiff, if_true, if_false, reduceIte]
  rw [e1]
 rw [if_neg h2] at e1
 simp (maxSteps := 1000000) only [VL,VM,↓VG,reduceIte,reduceCtorEq,zA,zB,zC,zD,zE,zF,zG,zH,zI,zJ, h2]
 ((repeat refine Ws ?_);refine Wf (by first|rfl|simp only [EV,zF,reduceIte]) ?_)
 ((repeat refine Ws ?_);refine Wr ?_)
 simp (maxSteps := 1000000) only [VL,VM,↓VG,reduceIte,reduceCtorEq,zA,zB,zC,zD,zE,zF,zG,zH,zI,zJ]
 apply call_eq (f := 71) (fn := Tryz.f71) (by kernel_rfl) (by rfl)
 ·exact in_v _ _ _ _
 cases h3 : inR c.takes.lo 1 480
 ·rw [h3] at e1
  simp (maxSteps := 1000000) only [VL,VM,↓VG,reduceIte,reduceCtorEq,zA,zB,zC,zD,zE,zF,zG,zH,zI,zJ]
  ((repeat refine Ws ?_);refine Wt (by first|rfl|simp only [EV,zF,reduceIte]) ?_)
  ((repeat refine Ws ?_);refine W_skip ?_)
  simp (maxSteps := 1000000) only [VL,VM,↓VG,reduceIte,reduceCtorEq,zA,zB,zC,zD,zE,zF,zG,zH,zI,zJ]
  ((repeat refine Ws ?_);refine Wt (by first|rfl|simp only [EV,zF,reduceIte]) ?_)
  ((repeat refine Ws ?_);refine Wr ?_)
  simp (maxSteps := 1000000) only [VL,VM,↓VG,reduceIte,reduceCtorEq,zA,zB,zC,zD,zE,zF,zG,zH,zI,zJ]
  (repeat refine Ws ?_)
  refine W_ret ?_
  try simp only [thenQ, blockQ]
  refine own_ret1 rfl ?_ (by rfl)
  simp only [get_cons, frz, vtup, Nat.reduceEqDiff, if_true, if_false, reduceIte]
  rw [e1]; rfl
 rw [h3, Bool.true_and] at e1
 simp (maxSteps := 1000000) only [VL,VM,↓VG,reduceIte,reduceCtorEq,zA,zB,zC,zD,zE,zF,zG,zH,zI,zJ]
 ((repeat refine Ws ?_);refine Wf (by first|rfl|simp only [EV,zF,reduceIte]) ?_)
 ((repeat refine Ws ?_);refine Wr ?_)
 simp (maxSteps := 1000000) only [VL,VM,↓VG,reduceIte,reduceCtorEq,zA,zB,zC,zD,zE,zF,zG,zH,zI,zJ]
 apply call_eq (f := 71) (fn := Tryz.f71) (by kernel_rfl) (by rfl)
 ·exact in_v _ _ _ _
 cases h4 : inR c.takes.hi 1 480
 ·rw [h4] at e1
  simp (maxSteps := 1000000) only [VL,VM,↓VG,reduceIte,reduceCtorEq,zA,zB,zC,zD,zE,zF,zG,zH,zI,zJ]
  ((repeat refine Ws ?_);refine Wt (by first|rfl|simp only [EV,zF,reduceIte]) ?_)
  ((repeat refine Ws ?_);refine Wr ?_)
  simp (maxSteps := 1000000) only [VL,VM,↓VG,reduceIte,reduceCtorEq,zA,zB,zC,zD,zE,zF,zG,zH,zI,zJ]
  (repeat refine Ws ?_)
  refine W_ret ?_
  try simp only [thenQ, blockQ]
  refine own_ret1 rfl ?_ (by rfl)
  simp only [get_cons, frz, vtup, Nat.reduceEqDiff, if_true, if_false, reduceIte]
  rw [e1]; rfl
 rw [h4, if_pos rfl] at e1
 simp (maxSteps := 1000000) only [VL,VM,↓VG,reduceIte,reduceCtorEq,zA,zB,zC,zD,zE,zF,zG,zH,zI,zJ]
 ((repeat refine Ws ?_);refine Wf (by first|rfl|simp only [EV,zF,reduceIte]) ?_)
 ((repeat refine Ws ?_);refine Wr ?_)
 by_cases h5 : c.takes.hi < c.takes.lo
 ·rw [if_pos h5] at e1
  simp (maxSteps := 1000000) only [VL,VM,↓VG,reduceIte,reduceCtorEq,zA,zB,zC,zD,zE,zF,zG,zH,zI,zJ, h5]
  ((repeat refine Ws ?_);refine Wt (by first|rfl|simp only [EV,zF,reduceIte]) ?_)
  ((repeat refine Ws ?_);refine Wr ?_)
  simp (maxSteps := 1000000) only [VL,VM,↓VG,reduceIte,reduceCtorEq,zA,zB,zC,zD,zE,zF,zG,zH,zI,zJ]
  (repeat refine Ws ?_)
  refine W_ret ?_
  try simp only [thenQ, blockQ]
  refine own_ret1 rfl ?_ (by rfl)
  simp only [get_cons, frz, vtup, Nat.reduceEqDiff, if_true, if_false, reduceIte]
  rw [e1]
 rw [if_neg h5] at e1
 simp (maxSteps := 1000000) only [VL,VM,↓VG,reduceIte,reduceCtorEq,zA,zB,zC,zD,zE,zF,zG,zH,zI,zJ, h5]
 ((repeat refine Ws ?_);refine Wf (by first|rfl|simp only [EV,zF,reduceIte]) ?_)
 ((repeat refine Ws ?_);refine Wr ?_)
 simp (maxSteps := 1000000) only [VL,VM,↓VG,reduceIte,reduceCtorEq,zA,zB,zC,zD,zE,zF,zG,zH,zI,zJ]
 apply call_eq (f := 71) (fn := Tryz.f71) (by kernel_rfl) (by rfl)
 ·exact in_v _ _ _ _
 cases h6 : inR c.grams 0 1000000
 ·rw [h6] at e1
  simp (maxSteps := 1000000) only [VL,VM,↓VG,reduceIte,reduceCtorEq,zA,zB,zC,zD,zE,zF,zG,zH,zI,zJ]
  ((repeat refine Ws ?_);refine Wt (by first|rfl|simp only [EV,zF,reduceIte]) ?_)
  ((repeat refine Ws ?_);refine Wr ?_)
  simp (maxSteps := 1000000) only [VL,VM,↓VG,reduceIte,reduceCtorEq,zA,zB,zC,zD,zE,zF,zG,zH,zI,zJ]
  (repeat refine Ws ?_)
  refine W_ret ?_
  try simp only [thenQ, blockQ]
  refine own_ret1 rfl ?_ (by rfl)
  simp only [get_cons, frz, vtup, Nat.reduceEqDiff, if_true, if_false, reduceIte]
  rw [e1]; rfl
 rw [h6, if_pos rfl] at e1
 simp (maxSteps := 1000000) only [VL,VM,↓VG,reduceIte,reduceCtorEq,zA,zB,zC,zD,zE,zF,zG,zH,zI,zJ]
 ((repeat refine Ws ?_);refine Wf (by first|rfl|simp only [EV,zF,reduceIte]) ?_)
 ((repeat refine Ws ?_);refine W_skip ?_)
 simp (maxSteps := 1000000) only [VL,VM,↓VG,reduceIte,reduceCtorEq,zA,zB,zC,zD,zE,zF,zG,zH,zI,zJ]
 ((repeat refine Ws ?_);refine Wr ?_)
 simp (maxSteps := 1000000) only [VL,VM,↓VG,reduceIte,reduceCtorEq,zA,zB,zC,zD,zE,zF,zG,zH,zI,zJ]
 ((repeat refine Ws ?_);refine W_block ?_; (repeat refine Ws ?_)); refine W_loopS (fun i : Nat => [(2, .ptr M.H.length 0), (3, .ptr (M.H.length + 1) 0), (46, intsV c.ramps), (47, vi c.ramps.length), (48, vi i)]) (fun _ => ⟨M.H ++ [.obj (yardC y), .obj (ctC c)], M.lg⟩) (fun i => c.ramps.length - i) (fun i => i ≤ c.ramps.length ∧ ctErr y.ramps.length c = crErr y.ramps.length (prevOf c.ramps i) (c.ramps.drop i)) 0 ⟨by omega, by rw [e1]; rfl⟩ ⟨rfl, rfl, rfl, rfl, rfl, trivial⟩ rfl ?_
 rintro i ⟨hi, he⟩
 have k1 : -9223372036854775808 ≤ (i : Int) + 1 ∧ (i : Int) + 1 < 9223372036854775808 := by omega
 ((repeat refine Ws ?_);refine Wr ?_)
 rcases Nat.lt_or_ge i c.ramps.length with hlt | hge
 ·have k2 : ((i : Int) < (c.ramps.length : Int)) = True := eq_true (by omega)
  have hx : c.ramps[i]? = some c.ramps[i] := List.getElem?_eq_getElem hlt
  have hx' := map_at (f := intP) hx
  rw [crErr_at hlt] at he
  generalize hr : c.ramps[i] = r at hx hx' he
  simp (maxSteps := 1000000) only [VL,VM,↓VG,reduceIte,reduceCtorEq,zA,zB,zC,zD,zE,zF,zG,zH,zI,zJ, k2]
  ((repeat refine Ws ?_);refine Wt (by first|rfl|simp only [EV,zF,reduceIte]) ?_)
  ((repeat refine Ws ?_);refine W_skip ?_)
  simp (maxSteps := 1000000) only [VL,VM,↓VG,reduceIte,reduceCtorEq,zA,zB,zC,zD,zE,zF,zG,zH,zI,zJ]
  ((repeat refine Ws ?_);refine W_block ?_)
  ((repeat refine Ws ?_);refine Wr ?_)
  simp (maxSteps := 1000000) only [VL,VM,↓VG,reduceIte,reduceCtorEq,zA,zB,zC,zD,zE,zF,zG,zH,zI,zJ, hx']
  ((repeat refine Ws ?_);refine W_block ?_)
  ((repeat refine Ws ?_);refine Wr ?_)
  simp (maxSteps := 1000000) only [VL,VM,↓VG,reduceIte,reduceCtorEq,zA,zB,zC,zD,zE,zF,zG,zH,zI,zJ, k0]
  apply call_eq (f := 71) (fn := Tryz.f71) (by kernel_rfl) (by rfl)
  ·exact in_v _ _ _ _
  cases g1 : inR r 0 ((y.ramps.length : Int) - 1)
  ·rw [g1] at he
   simp (maxSteps := 1000000) only [VL,VM,↓VG,reduceIte,reduceCtorEq,zA,zB,zC,zD,zE,zF,zG,zH,zI,zJ]
   ((repeat refine Ws ?_);refine Wt (by first|rfl|simp only [EV,zF,reduceIte]) ?_)
   ((repeat refine Ws ?_);refine Wr ?_)
   simp (maxSteps := 1000000) only [VL,VM,↓VG,reduceIte,reduceCtorEq,zA,zB,zC,zD,zE,zF,zG,zH,zI,zJ]
   (repeat refine Ws ?_)
   refine W_ret ?_
   try simp only [thenQ, blockQ]
   refine own_ret1 rfl ?_ (by rfl)
   simp only [get_cons, frz, vtup, Nat.reduceEqDiff, if_true, if_false, reduceIte]
   rw [he]; rfl
  rw [g1, if_pos rfl] at he
  simp (maxSteps := 1000000) only [VL,VM,↓VG,reduceIte,reduceCtorEq,zA,zB,zC,zD,zE,zF,zG,zH,zI,zJ]
  ((repeat refine Ws ?_);refine Wf (by first|rfl|simp only [EV,zF,reduceIte]) ?_)
  ((repeat refine Ws ?_);refine Wr ?_)
  rcases Nat.eq_zero_or_pos i with h0 | h0
  ·have g2 : ¬ r ≤ prevOf c.ramps i := by
    rw [inR_true] at g1
    rw [h0]
    show ¬ r ≤ -1
    omega
   have k3 : ((0 : Int) < (i : Int)) = False := eq_false (by omega)
   rw [if_neg g2] at he
   simp (maxSteps := 1000000) only [VL,VM,↓VG,reduceIte,reduceCtorEq,zA,zB,zC,zD,zE,zF,zG,zH,zI,zJ, k3]
   ((repeat refine Ws ?_);refine Wf (by first|rfl|simp only [EV,zF,reduceIte]) ?_)
   ((repeat refine Ws ?_);refine W_skip ?_)
   simp (maxSteps := 1000000) only [VL,VM,↓VG,reduceIte,reduceCtorEq,zA,zB,zC,zD,zE,zF,zG,zH,zI,zJ]
   ((repeat refine Ws ?_);refine Wr ?_)
   simp (maxSteps := 1000000) only [VL,VM,↓VG,reduceIte,reduceCtorEq,zA,zB,zC,zD,zE,zF,zG,zH,zI,zJ, k1]
   exact LoopK.mk (i + 1) (by omega) ⟨by omega, he⟩ ⟨rfl, rfl, rfl, rfl, rfl, trivial⟩ rfl
  ·obtain ⟨j, hji⟩ : ∃ j, i = j + 1 := ⟨i - 1, by omega⟩
   have hj : c.ramps[j]? = some (prevOf c.ramps i) := by
    have : j < c.ramps.length := by omega
    rw [hji]
    simp [prevOf, this]
   have hj' := map_at (f := intP) hj
   generalize prevOf c.ramps i = p at he hj hj'
   have k3 : ((0 : Int) < (i : Int)) = True := eq_true (by omega)
   have k4 : -9223372036854775808 ≤ (j : Int) ∧ (j : Int) < 9223372036854775808 := by omega
   have k5 : (i : Int) - 1 = (j : Int) := by omega
   by_cases g2 : r ≤ p
   ·rw [if_pos g2] at he
    simp (maxSteps := 1000000) only [VL,VM,↓VG,reduceIte,reduceCtorEq,zA,zB,zC,zD,zE,zF,zG,zH,zI,zJ, k3, k4, k5, hj', g2]
    ((repeat refine Ws ?_);refine Wt (by first|rfl|simp only [EV,zF,reduceIte]) ?_)
    ((repeat refine Ws ?_);refine Wr ?_)
    simp (maxSteps := 1000000) only [VL,VM,↓VG,reduceIte,reduceCtorEq,zA,zB,zC,zD,zE,zF,zG,zH,zI,zJ]
    (repeat refine Ws ?_)
    refine W_ret ?_
    try simp only [thenQ, blockQ]
    refine own_ret1 rfl ?_ (by rfl)
    simp only [get_cons, frz, vtup, Nat.reduceEqDiff, if_true, if_false, reduceIte]
    rw [he]
   ·rw [if_neg g2] at he
    simp (maxSteps := 1000000) only [VL,VM,↓VG,reduceIte,reduceCtorEq,zA,zB,zC,zD,zE,zF,zG,zH,zI,zJ, k3, k4, k5, hj', g2]
    ((repeat refine Ws ?_);refine Wf (by first|rfl|simp only [EV,zF,reduceIte]) ?_)
    ((repeat refine Ws ?_);refine W_skip ?_)
    simp (maxSteps := 1000000) only [VL,VM,↓VG,reduceIte,reduceCtorEq,zA,zB,zC,zD,zE,zF,zG,zH,zI,zJ]
    ((repeat refine Ws ?_);refine Wr ?_)
    simp (maxSteps := 1000000) only [VL,VM,↓VG,reduceIte,reduceCtorEq,zA,zB,zC,zD,zE,zF,zG,zH,zI,zJ, k1]
    exact LoopK.mk (i + 1) (by omega) ⟨by omega, he⟩ ⟨rfl, rfl, rfl, rfl, rfl, trivial⟩ rfl
 ·have k2 : ((i : Int) < (c.ramps.length : Int)) = False := eq_false (by omega)
  obtain rfl : i = c.ramps.length := by omega
  rw [List.drop_length, crErr] at he
  simp (maxSteps := 1000000) only [VL,VM,↓VG,reduceIte,reduceCtorEq,zA,zB,zC,zD,zE,zF,zG,zH,zI,zJ, k2]
  ((repeat refine Ws ?_);refine Wf (by first|rfl|simp only [EV,zF,reduceIte]) ?_)
  ((repeat refine Ws ?_);refine W_exit ?_)
  simp (maxSteps := 1000000) only [VL,VM,↓VG,reduceIte,reduceCtorEq,zA,zB,zC,zD,zE,zF,zG,zH,zI,zJ]
  ((repeat refine Ws ?_);refine Wr ?_)
  simp (maxSteps := 1000000) only [VL,VM,↓VG,reduceIte,reduceCtorEq,zA,zB,zC,zD,zE,zF,zG,zH,zI,zJ]
  (repeat refine Ws ?_)
  refine W_ret ?_
  try simp only [thenQ, blockQ]
  refine own_ret1 rfl ?_ (by rfl)
  simp only [get_cons, frz, vtup, Nat.reduceEqDiff, if_true, if_false, reduceIte]
  rw [he]
end Go.Proofs.YtmiiipdgbkipjaaGreatDoor.Vm
