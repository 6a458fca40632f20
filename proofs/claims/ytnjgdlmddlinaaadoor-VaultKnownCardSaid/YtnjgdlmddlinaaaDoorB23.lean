/- A part of the proofs about the chapter of the vaults; it states no condition of its own. -/
import Derived.Test.YtnjgdlmddlinaaaDoorB19
import Derived.Test.YtnjgdlmddlinaaaDoorB21
import Derived.Test.YtnjgdlmddlinaaaDoorB22
set_option linter.unusedVariables false
set_option linter.unusedSimpArgs false
open Int renaming reduceLE → zA, reduceLT → zB, reduceToNat → zC, reduceNeg → zD
open Nat renaming reduceLT → zE, reduceEqDiff → zF, reduceAdd → zG, reduceSub → zH, reduceMul → zI, reduceLeDiff → zJ
/- The layouts that are tried, on values. (Vm) -/
namespace Go.Proofs.YtnjgdlmddlinaaaDoor.Vm
open Go Go.Proofs
abbrev tryV (ih im ib id io it : Nat) : VV := .fn (.func 31) [] [.ptr ih 0, .ptr im 0, .ptr ib 0, .ptr id 0, .ptr io 0, .ptr it 0]
structure Fr (h : Ha) (g ih im ib id io it n0 : Nat) (A : List Pu → Int → List VObj) : Prop where
 len : ∀ b m, (A b m).length = n0
 gh : ∀ b m L, (A b m ++ L)[ih]? = some (.obj (hallC h))
 gm : ∀ b m L, (A b m ++ L)[im]? = some (.obj [vi m])
 gb : ∀ b m L, (A b m ++ L)[ib]? = some (.obj [pusV b])
 gd : ∀ b m L, (A b m ++ L)[id]? = some (.obj [vi (dearL h)])
 go : ∀ b m L, (A b m ++ L)[io]? = some (.obj [.so g 2 ((openL h).map plP)])
 gt : ∀ b m L, (A b m ++ L)[it]? = some (.obj [tryV ih im ib id io it])
 sm : ∀ b m L x, (A b m ++ L).set im (.obj [vi x]) = A b x ++ L
 sb : ∀ b m L x, (A b m ++ L).set ib (.obj [pusV x]) = A x m ++ L
theorem Fr.get {h : Ha} {g ih im ib id io it n0 : Nat} {A : List Pu → Int → List VObj} (F : Fr h g ih im ib id io it n0 A) (b : List Pu) (m : Int) (L : List VObj) (k : Nat) : (A b m ++ L)[n0 + k]? = L[k]? := by
 rw [← F.len b m]; exact hget _ _ _
theorem Fr.get0 {h : Ha} {g ih im ib id io it n0 : Nat} {A : List Pu → Int → List VObj} (F : Fr h g ih im ib id io it n0 A) (b : List Pu) (m : Int) (L : List VObj) : (A b m ++ L)[n0]? = L[0]? := F.get b m L 0
theorem Fr.set {h : Ha} {g ih im ib id io it n0 : Nat} {A : List Pu → Int → List VObj} (F : Fr h g ih im ib id io it n0 A) (b : List Pu) (m : Int) (L : List VObj) (k : Nat) (o : VObj) : (A b m ++ L).set (n0 + k) o = A b m ++ L.set k o := by
 rw [← F.len b m]; exact hset _ _ _ _
theorem Fr.set0 {h : Ha} {g ih im ib id io it n0 : Nat} {A : List Pu → Int → List VObj} (F : Fr h g ih im ib id io it n0 A) (b : List Pu) (m : Int) (L : List VObj) (o : VObj) : (A b m ++ L).set n0 o = A b m ++ L.set 0 o := F.set b m L 0 o
theorem Fr.ext {h : Ha} {g ih im ib id io it n0 : Nat} {A : List Pu → Int → List VObj} (F : Fr h g ih im ib id io it n0 A) (X : List VObj) : Fr h g ih im ib id io it (n0 + X.length) (fun b m => A b m ++ X) :=
 ⟨fun b m => by rw [List.length_append, F.len], fun b m L => by rw [List.append_assoc]; exact F.gh b m _, fun b m L => by rw [List.append_assoc]; exact F.gm b m _, fun b m L => by rw [List.append_assoc]; exact F.gb b m _, fun b m L => by rw [List.append_assoc]; exact F.gd b m _, fun b m L => by rw [List.append_assoc]; exact F.go b m _, fun b m L => by rw [List.append_assoc]; exact F.gt b m _, fun b m L x => by rw [List.append_assoc, F.sm, List.append_assoc], fun b m L x => by rw [List.append_assoc, F.sb, List.append_assoc]⟩
theorem fn_callk {f : Nat} {fn : Func} {args : List VV} {M : Mem} {Q : VV → Mem → Prop} (hf : T.fn f = some fn) (hk : T.keeps f = true) (h : VC Tryd.prog f args M Q) : VCall Tryd.prog (.fn (.func f) [] []) args M Q :=
 VCall_fn T_ok hf (by
  have : (sarg T f) = id := funext fun v => by simp [sarg, hk]
  simpa [this] using h)
theorem stepB_cases (h : Ha) (b now : List Pu) (m : Int) : (m < rentOf h now ∧ stepB h (b, m) now = (now, rentOf h now)) ∨ (¬ m < rentOf h now ∧ rentOf h now = m ∧ now.length < b.length ∧ stepB h (b, m) now = (now, rentOf h now)) ∨ (¬ m < rentOf h now ∧ rentOf h now = m ∧ ¬ now.length < b.length ∧ stepB h (b, m) now = (b, m)) ∨ (¬ m < rentOf h now ∧ ¬ rentOf h now = m ∧ stepB h (b, m) now = (b, m)) := by
 unfold stepB
 by_cases h1 : m < rentOf h now
 ·exact .inl ⟨h1, if_pos (.inl h1)⟩
 ·by_cases h2 : rentOf h now = m
  ·by_cases h3 : now.length < b.length
   ·exact .inr (.inl ⟨h1, h2, h3, if_pos (.inr ⟨h2, h3⟩)⟩)
   ·exact .inr (.inr (.inl ⟨h1, h2, h3, if_neg (by simp only; omega)⟩))
  ·exact .inr (.inr (.inr ⟨h1, h2, if_neg (by simp only; omega)⟩))
theorem call_dc {f : Nat} {fn : Func} {args caps : List VV} {M M1 : Mem} {v : VV} (hf : T.fn f = some fn) (hk : T.keeps f = false) (h : VC Tryd.prog f ((args ++ caps).map strip1) M (fun r M' => r = v ∧ M' = M1)) {R : VV → Mem → Prop} (hq : R v M1) : DCallK Tryd.prog (.fn (.func f) [] caps) args M R :=
 ⟨v, M1, VCall_fn T_ok hf (by
  have : (sarg T f) = strip1 := funext fun v => by simp [sarg, hk]
  simpa [this] using h), hq⟩
theorem call_c {f : Nat} {fn : Func} {args caps : List VV} {M M1 : Mem} {v : VV} (hf : T.fn f = some fn) (hk : T.keeps f = false) (h : VC Tryd.prog f ((args ++ caps).map strip1) M (fun r M' => r = v ∧ M' = M1)) {Q : VV → Mem → Prop} (hq : Q v M1) : VCall Tryd.prog (.fn (.func f) [] caps) args M Q :=
 (VCall_fn T_ok hf (by
   have : (sarg T f) = strip1 := funext fun v => by simp [sarg, hk]
   simpa [this] using h)).mono fun r M' e => by obtain ⟨rfl, rfl⟩ := e; exact hq
theorem fl_refs : ∀ fl : List Int, refsL (fl.map vi) = []
 | [] => rfl
 | _ :: fl => by
  simp only [List.map_cons, refsL, refs]
  rw [List.nil_append]
  exact fl_refs fl
def TrySpec (h : Ha) (g ih im ib id io it : Nat) (cs : List Pl) : Prop :=
 ∀ (n0 : Nat) (A : List Pu → Int → List VObj) (_ : Fr h g ih im ib id io it n0 A) (now : List Pu) (fl : List Int) (b : List Pu) (m : Int) (lg : List (Nat × Nat)) (n : Nat) (_ : (openL h).drop n = cs) (_ : n ≤ (openL h).length) (_ : FlOk h fl now cs) (_ : allowedB h now = true),
  VC Tryd.prog 31 [floorV fl, vi n, vi (rentOf h now), .ptr ih 0, .ptr im 0, .ptr ib 0, .ptr id 0, .ptr io 0, .ptr it 0] ⟨A b m, lg⟩ (fun r M' => r = .tup [] ∧ M' = ⟨A (tryS h cs now (b, m)).1 (tryS h cs now (b, m)).2, lg⟩)
set_option maxRecDepth 100000 in
set_option maxHeartbeats 1000000 in
theorem try_step (h : Ha) (V : VH h) (hop : (openL h).length ≤ 8) (g ih im ib id io it : Nat) (cs : List Pl) (hind : ∀ c cs', cs = c :: cs' → TrySpec h g ih im ib id io it cs') : TrySpec h g ih im ib id io it cs := by
 intro n0 A F now fl b m lg n hcs hn hfl ha
 have fc := fl_cells fl
 have f24 : (24 ≤ fl.length) = True := eq_true (by rw [hfl.len]; omega)
 have f25 : fl.take 24 = fl := List.take_of_length_le (by rw [hfl.len]; omega)
 have f26 := fl_strip fl
 have hl := F.len b m
 have hlay := (allowedB_iff.1 ha).1
 have hnow := hlay.1
 have hre := rent_le V hlay.good
 have hrb : 0 ≤ rentOf h now ∧ rentOf h now ≤ 24000000 := by omega
 refine VC_ownK T_ok (f := 31) (fn := Tryd.f31) (by kernel_rfl) rfl Tryd.ntmps31 (by rfl) (by rfl) ?_
 ((repeat refine Ws ?_);refine Wr ?_)
 simp (maxSteps := 1000000) only [VL,VM,↓VG,reduceIte,reduceCtorEq,zA,zB,zC,zD,zE,zF,zG,zH,zI,zJ, fc]
 ((repeat refine Ws ?_);refine Wr ?_)
 simp (maxSteps := 1000000) only [VL,VM,↓VG,reduceIte,reduceCtorEq,zA,zB,zC,zD,zE,zF,zG,zH,zI,zJ, f24, f25, f26, F.len, F.get, F.get0, F.set, F.set0, F.gh, F.gm, F.gb, F.gd, F.go, F.gt, F.sm, F.sb]
 refine fn_callk (f := 32) (fn := Tryd.f32) (by kernel_rfl) (by rfl) ?_
 refine (puts_vm h fl _ V hfl.len hfl.val).mono ?_
 rintro _ _ ⟨⟨X, rfl, hX⟩, rfl⟩
 obtain ⟨x1, x2, x3, x4, x5, x6, x7, rfl⟩ : ∃ x1 x2 x3 x4 x5 x6 x7, X = [x1, x2, x3, x4, x5, x6, x7] := by
  match X, hX with
  | [a, b, c, d, e, f, g], _ => exact ⟨_, _, _, _, _, _, _, rfl⟩
 rw [hfl.is]
 have hY : ∀ e ∈ [((A b m ++ [VObj.obj (fl.map vi)]).length + 2, (A b m ++ [VObj.obj (fl.map vi)]).length + 3)], n0 ≤ e.1 := by
  intro e he
  rw [List.mem_singleton] at he
  subst he
  simp only [List.length_append, F.len]
  omega
 generalize [((A b m ++ [VObj.obj (fl.map vi)]).length + 2, (A b m ++ [VObj.obj (fl.map vi)]).length + 3)] = Y at hY
 simp (maxSteps := 1000000) only [VL,VM,↓VG,reduceIte,reduceCtorEq,zA,zB,zC,zD,zE,zF,zG,zH,zI,zJ, F.len, F.get, F.get0, F.set, F.set0, F.gh, F.gm, F.gb, F.gd, F.go, F.gt, F.sm, F.sb]
 refine W_strip (t := 12) rfl ?_
 refine W_seq ?_
 refine W_then [(1, vi n), (2, vi (rentOf h now)), (3, .ptr ih 0), (4, .ptr im 0), (5, .ptr ib 0), (6, .ptr id 0), (7, .ptr io 0), (8, .ptr it 0), (9, .ptr n0 0), (12, pusV now)] ⟨A (stepB h (b, m) now).1 (stepB h (b, m) now).2 ++ VObj.obj (fl.map vi) :: [x1, x2, x3, x4, x5, x6, x7], lg ++ Y⟩ ?_ (fun e' hS => WCode.weak (e' := [(1, vi n), (2, vi (rentOf h now)), (3, .ptr ih 0), (4, .ptr im 0), (5, .ptr ib 0), (6, .ptr id 0), (7, .ptr io 0), (8, .ptr it 0), (9, .ptr n0 0), (12, pusV now)]) ?_ hS.ok)
--[
 ·((repeat refine Ws ?_);refine Wr ?_)
  rcases stepB_cases h b now m with ⟨s1, s2⟩ | ⟨s1, s2, s3, s4⟩ | ⟨s1, s2, s3, s4⟩ | ⟨s1, s2, s4⟩
  ·have t1 : (m < rentOf h now) = True := eq_true s1
   simp (maxSteps := 1000000) only [VL,VM,↓VG,reduceIte,reduceCtorEq,zA,zB,zC,zD,zE,zF,zG,zH,zI,zJ, F.len, F.get, F.get0, F.set, F.set0, F.gh, F.gm, F.gb, F.gd, F.go, F.gt, F.sm, F.sb, t1]
   ((repeat refine Ws ?_);refine Wt (by first|rfl|simp only [EV,zF,reduceIte]) ?_)
   ((repeat refine Ws ?_);refine Wr ?_)
   simp (maxSteps := 1000000) only [VL,VM,↓VG,reduceIte,reduceCtorEq,zA,zB,zC,zD,zE,zF,zG,zH,zI,zJ, F.len, F.get, F.get0, F.set, F.set0, F.gh, F.gm, F.gb, F.gd, F.go, F.gt, F.sm, F.sb]
   rw [s2]
   exact ⟨rfl, rfl, rfl, rfl, rfl, rfl, rfl, rfl, rfl, rfl, rfl, trivial⟩
  ·have t1 : (m < rentOf h now) = False := eq_false s1
   have t2 : (rentOf h now = m) = True := eq_true s2
   have t3 : ((now.length : Int) < (b.length : Int)) = True := eq_true (by omega)
   simp (maxSteps := 1000000) only [VL,VM,↓VG,reduceIte,reduceCtorEq,zA,zB,zC,zD,zE,zF,zG,zH,zI,zJ, F.len, F.get, F.get0, F.set, F.set0, F.gh, F.gm, F.gb, F.gd, F.go, F.gt, F.sm, F.sb, t1, t2, t3]
   ((repeat refine Ws ?_);refine Wt (by first|rfl|simp only [EV,zF,reduceIte]) ?_)
   ((repeat refine Ws ?_);refine Wr ?_)
   simp (maxSteps := 1000000) only [VL,VM,↓VG,reduceIte,reduceCtorEq,zA,zB,zC,zD,zE,zF,zG,zH,zI,zJ, F.len, F.get, F.get0, F.set, F.set0, F.gh, F.gm, F.gb, F.gd, F.go, F.gt, F.sm, F.sb]
   rw [s4]
   exact ⟨rfl, rfl, rfl, rfl, rfl, rfl, rfl, rfl, rfl, rfl, rfl, trivial⟩
  ·have t1 : (m < rentOf h now) = False := eq_false s1
   have t2 : (rentOf h now = m) = True := eq_true s2
   have t3 : ((now.length : Int) < (b.length : Int)) = False := eq_false (by omega)
   simp (maxSteps := 1000000) only [VL,VM,↓VG,reduceIte,reduceCtorEq,zA,zB,zC,zD,zE,zF,zG,zH,zI,zJ, F.len, F.get, F.get0, F.set, F.set0, F.gh, F.gm, F.gb, F.gd, F.go, F.gt, F.sm, F.sb, t1, t2, t3]
   ((repeat refine Ws ?_);refine Wf (by first|rfl|simp only [EV,zF,reduceIte]) ?_)
   ((repeat refine Ws ?_);refine W_skip ?_)
   rw [s4]
   exact ⟨rfl, rfl, rfl, rfl, rfl, rfl, rfl, rfl, rfl, rfl, rfl, rfl, rfl, trivial⟩
  ·have t1 : (m < rentOf h now) = False := eq_false s1
   have t2 : (rentOf h now = m) = False := eq_false s2
   simp (maxSteps := 1000000) only [VL,VM,↓VG,reduceIte,reduceCtorEq,zA,zB,zC,zD,zE,zF,zG,zH,zI,zJ, F.len, F.get, F.get0, F.set, F.set0, F.gh, F.gm, F.gb, F.gd, F.go, F.gt, F.sm, F.sb, t1, t2]
   ((repeat refine Ws ?_);refine Wf (by first|rfl|simp only [EV,zF,reduceIte]) ?_)
   ((repeat refine Ws ?_);refine W_skip ?_)
   rw [s4]
   exact ⟨rfl, rfl, rfl, rfl, rfl, rfl, rfl, rfl, rfl, rfl, rfl, rfl, rfl, trivial⟩
--]
 generalize hst : stepB h (b, m) now = st
 obtain ⟨b1, m1⟩ := st
 have hd := dear_le V
 have hdl := congrArg List.length hcs
 rw [List.length_drop] at hdl
 have fin : ∀ (e : Env) (L : List VObj), tryS h cs now (b, m) = (b1, m1) → ownK T Tryd.f31 ⟨A b m, lg⟩ (fun r M' => r = .tup [] ∧ M' = ⟨A (tryS h cs now (b, m)).1 (tryS h cs now (b, m)).2, lg⟩) .ret e ⟨A b1 m1 ++ L, lg ++ Y⟩ [] := fun e L he =>
  ⟨.inr rfl, ⟨Y, rfl, fun x hx => by simp only [F.len]; exact hY x hx⟩, A b1 m1, L, rfl, by simp only [F.len], [], rfl, _, rfl, by simp [vtup, frz, frzL, refs, refsL], rfl, by rw [he]⟩
 cases cs with
 | nil =>
  have hq : ((openL h).length : Int) - (n : Int) = 0 := by simp at hdl; omega
  have hnn : ((n : Int) = ((openL h).length : Int)) = True := eq_true (by simp at hdl; omega)
  have a1 : (-9223372036854775808 : Int) ≤ 0 ∧ (0 : Int) < 9223372036854775808 := by omega
  have a3 : -9223372036854775808 ≤ rentOf h now ∧ rentOf h now < 9223372036854775808 := by omega
--[
  ((repeat refine Ws ?_);refine Wr ?_)
  simp (maxSteps := 1000000) only [VL,VM,↓VG,reduceIte,reduceCtorEq,zA,zB,zC,zD,zE,zF,zG,zH,zI,zJ, F.len, F.get, F.get0, F.set, F.set0, F.gh, F.gm, F.gb, F.gd, F.go, F.gt, F.sm, F.sb, hq, a1, a3, Int.mul_zero, Int.add_zero]
  ((repeat refine Ws ?_);refine Wr ?_)
  simp (maxSteps := 1000000) only [VL,VM,↓VG,reduceIte,reduceCtorEq,zA,zB,zC,zD,zE,zF,zG,zH,zI,zJ, F.len, F.get, F.get0, F.set, F.set0, F.gh, F.gm, F.gb, F.gd, F.go, F.gt, F.sm, F.sb, hnn]
  ((repeat refine Ws ?_);refine Wt (by first|rfl|simp only [EV,zF,reduceIte]) ?_)
  (repeat refine Ws ?_)
  refine W_ret ?_
  try simp only [thenQ, blockQ]
  exact fin _ _ hst
--]
 | cons c cs =>
 have hq : ((openL h).length : Int) - (n : Int) = (cs.length : Int) + 1 := by simp at hdl; omega
 have hnn : ((n : Int) = ((openL h).length : Int)) = False := eq_false (by simp at hdl; omega)
 have hcl : cs.length ≤ 7 := by simp at hdl; omega
 have hmul : 0 ≤ dearL h * ((cs.length : Int) + 1) ∧ dearL h * ((cs.length : Int) + 1) ≤ 1000000 * 8 := ⟨Int.mul_nonneg hd.1 (by omega), Int.mul_le_mul hd.2 (by omega) (by omega) (by omega)⟩
 have a1 : -9223372036854775808 ≤ (cs.length : Int) + 1 ∧ (cs.length : Int) + 1 < 9223372036854775808 := by omega
 have a2 : -9223372036854775808 ≤ dearL h * ((cs.length : Int) + 1) ∧ dearL h * ((cs.length : Int) + 1) < 9223372036854775808 := by omega
 have a3 : -9223372036854775808 ≤ rentOf h now + dearL h * ((cs.length : Int) + 1) ∧ rentOf h now + dearL h * ((cs.length : Int) + 1) < 9223372036854775808 := by omega
 have htry : tryS h (c :: cs) now (b, m) = if rentOf h now + dearL h * ((cs.length : Int) + 1) < m1 ∨ rentOf h now + dearL h * ((cs.length : Int) + 1) = m1 ∧ b1.length ≤ now.length then (b1, m1) else tryS h cs now ((List.range h.kinds.length).foldl (fun s (k : Nat) => if allowedB h (now ++ [⟨c, (k : Int)⟩]) then tryS h cs (now ++ [⟨c, (k : Int)⟩]) s else s) (b1, m1)) := by
  rw [tryS, hst]
 ((repeat refine Ws ?_);refine Wr ?_)
 simp (maxSteps := 1000000) only [VL,VM,↓VG,reduceIte,reduceCtorEq,zA,zB,zC,zD,zE,zF,zG,zH,zI,zJ, F.len, F.get, F.get0, F.set, F.set0, F.gh, F.gm, F.gb, F.gd, F.go, F.gt, F.sm, F.sb, hq, a1, a2, a3]
 generalize rentOf h now + dearL h * ((cs.length : Int) + 1) = could at htry
 by_cases hcond : could < m1 ∨ could = m1 ∧ b1.length ≤ now.length
--[
 ·rw [if_pos hcond] at htry
  ((repeat refine Ws ?_);refine Wr ?_)
  rcases hcond with c1 | ⟨c3, c4⟩
  ·simp (maxSteps := 1000000) only [VL,VM,↓VG,reduceIte,reduceCtorEq,zA,zB,zC,zD,zE,zF,zG,zH,zI,zJ, F.len, F.get, F.get0, F.set, F.set0, F.gh, F.gm, F.gb, F.gd, F.go, F.gt, F.sm, F.sb, hnn, eq_true c1]
   ((repeat refine Ws ?_);refine Wt (by first|rfl|simp only [EV,zF,reduceIte]) ?_)
   (repeat refine Ws ?_)
   refine W_ret ?_
   try simp only [thenQ, blockQ]
   exact fin _ _ htry
  ·have c1 : ¬ could < m1 := by omega
   have c5 : ((b1.length : Int) ≤ (now.length : Int)) = True := eq_true (by omega)
   simp (maxSteps := 1000000) only [VL,VM,↓VG,reduceIte,reduceCtorEq,zA,zB,zC,zD,zE,zF,zG,zH,zI,zJ, F.len, F.get, F.get0, F.set, F.set0, F.gh, F.gm, F.gb, F.gd, F.go, F.gt, F.sm, F.sb, hnn, eq_false c1, eq_true c3, c5]
   ((repeat refine Ws ?_);refine Wt (by first|rfl|simp only [EV,zF,reduceIte]) ?_)
   (repeat refine Ws ?_)
   refine W_ret ?_
   try simp only [thenQ, blockQ]
   exact fin _ _ htry
--]
 rw [if_neg hcond] at htry
 clear fin
 refine W_seq ?_
 refine W_then [(1, vi n), (2, vi (rentOf h now)), (3, .ptr ih 0), (4, .ptr im 0), (5, .ptr ib 0), (6, .ptr id 0), (7, .ptr io 0), (8, .ptr it 0), (9, .ptr n0 0), (12, pusV now)] ⟨A b1 m1 ++ VObj.obj (fl.map vi) :: [x1, x2, x3, x4, x5, x6, x7], lg ++ Y⟩ ?_ (fun e' hS => WCode.weak (e' := [(1, vi n), (2, vi (rentOf h now)), (3, .ptr ih 0), (4, .ptr im 0), (5, .ptr ib 0), (6, .ptr id 0), (7, .ptr io 0), (8, .ptr it 0), (9, .ptr n0 0), (12, pusV now)]) ?_ hS.ok)
--[
 ·((repeat refine Ws ?_);refine Wr ?_)
  have c1 : ¬ could < m1 := fun e => hcond (.inl e)
  by_cases c3 : could = m1
  ·have c5 : ((b1.length : Int) ≤ (now.length : Int)) = False := eq_false (fun e => hcond (.inr ⟨c3, by omega⟩))
   simp (maxSteps := 1000000) only [VL,VM,↓VG,reduceIte,reduceCtorEq,zA,zB,zC,zD,zE,zF,zG,zH,zI,zJ, F.len, F.get, F.get0, F.set, F.set0, F.gh, F.gm, F.gb, F.gd, F.go, F.gt, F.sm, F.sb, hnn, eq_false c1, eq_true c3, c5]
   ((repeat refine Ws ?_);refine Wf (by first|rfl|simp only [EV,zF,reduceIte]) ?_)
   ((repeat refine Ws ?_);refine W_skip ?_)
   exact ⟨rfl, rfl, rfl, rfl, rfl, rfl, rfl, rfl, rfl, rfl, rfl, rfl, rfl, trivial⟩
  ·simp (maxSteps := 1000000) only [VL,VM,↓VG,reduceIte,reduceCtorEq,zA,zB,zC,zD,zE,zF,zG,zH,zI,zJ, F.len, F.get, F.get0, F.set, F.set0, F.gh, F.gm, F.gb, F.gd, F.go, F.gt, F.sm, F.sb, hnn, eq_false c1, eq_false c3]
   ((repeat refine Ws ?_);refine Wf (by first|rfl|simp only [EV,zF,reduceIte]) ?_)
   ((repeat refine Ws ?_);refine W_skip ?_)
   exact ⟨rfl, rfl, rfl, rfl, rfl, rfl, rfl, rfl, rfl, rfl, rfl, rfl, rfl, trivial⟩
--]
 have hc0 : (openL h)[n]? = some c := by
  have := congrArg (fun l : List Pl => l[0]?) hcs
  simpa using this
 have hc' := map_at (f := plP) hc0
 have hcm : c ∈ openL h := List.mem_of_getElem? hc0
 have hcb := mem_places V.w2 V.d2 (open_mem hcm)
 have hsort : (c :: cs).Pairwise plLt := by rw [← hcs]; exact (open_ord h).sublist (List.drop_sublist _ _)
 have hcs' : (openL h).drop (n + 1) = cs := by
  rw [← List.drop_drop, hcs]; rfl
 have hk6 := V.kinds6
 ((repeat refine Ws ?_);refine Wr ?_)
 simp (maxSteps := 1000000) only [VL,VM,↓VG,reduceIte,reduceCtorEq,zA,zB,zC,zD,zE,zF,zG,zH,zI,zJ, F.len, F.get, F.get0, F.set, F.set0, F.gh, F.gm, F.gb, F.gd, F.go, F.gt, F.sm, F.sb, hc']
 obtain ⟨L0, hL0⟩ : ∃ L0, L0 = [VObj.obj (fl.map vi), x1, x2, x3, x4, x5, x6, x7, VObj.obj [vi c.x, vi c.y]] := ⟨_, rfl⟩
 obtain ⟨A2, hA2⟩ : ∃ A2 : List Pu → Int → List VObj, A2 = fun b m => A b m ++ L0 := ⟨_, rfl⟩
 obtain ⟨n2, hn2⟩ : ∃ n2, n2 = n0 + 9 := ⟨_, rfl⟩
 have F2 : Fr h g ih im ib id io it n2 A2 := by
  have := F.ext L0
  rw [← hA2, hL0] at this
  rw [hn2]
  exact this
 have g1 : ∀ b m L, (A2 b m ++ L)[n0]? = some (.obj (fl.map vi)) := fun b m L => by
  rw [hA2]
  simp only [List.append_assoc]
  rw [F.get0, hL0]; rfl
 have g2 : ∀ b m L, (A2 b m ++ L)[n0 + 8]? = some (.obj [vi c.x, vi c.y]) := fun b m L => by
  rw [hA2]
  simp only [List.append_assoc]
  rw [F.get, hL0]; rfl
 have hmem : A b1 m1 ++ [VObj.obj (fl.map vi), x1, x2, x3, x4, x5, x6, x7, VObj.obj [vi c.x, vi c.y]] = A2 b1 m1 := by rw [hA2, hL0]
 have hfl2 := hfl.tail
 have hk64 : -9223372036854775808 ≤ (h.kinds.length : Int) ∧ (h.kinds.length : Int) < 9223372036854775808 := by omega
 have gh0 : (A2 b1 m1)[ih]? = some (.obj (hallC h)) := by
  have := F2.gh b1 m1 []
  rwa [List.append_nil] at this
 rw [hmem]
 ((repeat refine Ws ?_);refine Wr ?_)
 simp (maxSteps := 1000000) only [VL,VM,↓VG,reduceIte,reduceCtorEq,zA,zB,zC,zD,zE,zF,zG,zH,zI,zJ, gh0]
 ((repeat refine Ws ?_);refine W_block ?_; (repeat refine Ws ?_)); refine W_loopS (fun s : Nat × (List Pu × Int) × List VObj => [(1, vi n), (2, vi (rentOf h now)), (3, .ptr ih 0), (4, .ptr im 0), (5, .ptr ib 0), (6, .ptr id 0), (7, .ptr io 0), (8, .ptr it 0), (9, .ptr n0 0), (12, pusV now), (14, .ptr (n0 + 8) 0), (73, vi h.kinds.length), (74, vi s.1)]) (fun s => ⟨A2 s.2.1.1 s.2.1.2 ++ s.2.2, lg ++ Y⟩) (fun s => h.kinds.length - s.1) (fun s => s.1 ≤ h.kinds.length ∧ s.2.1 = (List.range s.1).foldl (fun s (k : Nat) => if allowedB h (now ++ [⟨c, (k : Int)⟩]) then tryS h cs (now ++ [⟨c, (k : Int)⟩]) s else s) (b1, m1)) (0, (b1, m1), []) ⟨Nat.zero_le _, rfl⟩ ⟨rfl, rfl, rfl, rfl, rfl, rfl, rfl, rfl, rfl, rfl, rfl, rfl, rfl, trivial⟩ (by simp) ?_
 rintro ⟨k, ⟨b2, m2⟩, junk⟩ ⟨hk, hst2⟩
 simp only at hk hst2
 have k1 : -9223372036854775808 ≤ (k : Int) + 1 ∧ (k : Int) + 1 < 9223372036854775808 := by omega
 ((repeat refine Ws ?_);refine Wr ?_)
 rcases Nat.lt_or_ge k h.kinds.length with hlt | hge
 rotate_left
 ·have k2 : ((k : Int) < (h.kinds.length : Int)) = False := eq_false (by omega)
  obtain rfl : k = h.kinds.length := by omega
  simp (maxSteps := 1000000) only [VL,VM,↓VG,reduceIte,reduceCtorEq,zA,zB,zC,zD,zE,zF,zG,zH,zI,zJ, k2]
  ((repeat refine Ws ?_);refine Wf (by first|rfl|simp only [EV,zF,reduceIte]) ?_)
  ((repeat refine Ws ?_);refine W_exit ?_)
  simp (maxSteps := 1000000) only [VL,VM,↓VG,reduceIte,reduceCtorEq,zA,zB,zC,zD,zE,zF,zG,zH,zI,zJ]
  have hn1 : n + 1 ≤ (openL h).length := by
   have := (List.getElem?_eq_some_iff.1 hc0).1
   omega
  have n1 : -9223372036854775808 ≤ (n : Int) + 1 ∧ (n : Int) + 1 < 9223372036854775808 := by omega
  ((repeat refine Ws ?_);refine Wr ?_)
  simp (maxSteps := 1000000) only [VL,VM,↓VG,reduceIte,reduceCtorEq,zA,zB,zC,zD,zE,zF,zG,zH,zI,zJ, f24, f25, f26, n1, F2.gt, g1]
  refine call_c (f := 31) (fn := Tryd.f31) (M1 := ⟨A2 (tryS h cs now (b2, m2)).1 (tryS h cs now (b2, m2)).2 ++ junk, lg ++ Y⟩) (v := .tup []) (by kernel_rfl) (by rfl) ?_ ?_
  ·have := hind c cs rfl _ _ (F2.ext junk) now fl b2 m2 (lg ++ Y) (n + 1) hcs' hn1 hfl2 ha
   exact this
  ·rw [htry, ← hst2]
   refine ⟨by decide, ?_⟩
   refine ⟨.inl rfl, ⟨Y, rfl, fun x hx => by simp only [F.len]; exact hY x hx⟩, A (tryS h cs now (b2, m2)).1 (tryS h cs now (b2, m2)).2, L0 ++ junk, ?_, by simp only [F.len], [], rfl, _, rfl, by simp [vtup, frz, frzL, refs, refsL], rfl, rfl⟩
   simp only [vkill, hA2, List.append_assoc]
 have k2 : ((k : Int) < (h.kinds.length : Int)) = True := eq_true (by omega)
 have hkk := map_at (f := kiP) (List.getElem?_eq_getElem hlt)
 simp (maxSteps := 1000000) only [VL,VM,↓VG,reduceIte,reduceCtorEq,zA,zB,zC,zD,zE,zF,zG,zH,zI,zJ, k2]
 ((repeat refine Ws ?_);refine Wt (by first|rfl|simp only [EV,zF,reduceIte]) ?_)
 ((repeat refine Ws ?_);refine W_skip ?_)
 simp (maxSteps := 1000000) only [VL,VM,↓VG,reduceIte,reduceCtorEq,zA,zB,zC,zD,zE,zF,zG,zH,zI,zJ]
 ((repeat refine Ws ?_);refine W_block ?_)
 ((repeat refine Ws ?_);refine Wr ?_)
 simp (maxSteps := 1000000) only [VL,VM,↓VG,reduceIte,reduceCtorEq,zA,zB,zC,zD,zE,zF,zG,zH,zI,zJ]
 (repeat refine Ws ?_)
 refine W_drawP T_ok [] (by kernel_rfl) (by kernel_rfl) ?_
 generalize hi : mkPlan _ = infs
 cbv at hi
 subst hi
 simp (maxSteps := 1000000) only [VL,VM,↓VG,reduceIte,reduceCtorEq,zA,zB,zC,zD,zE,zF,zG,zH,zI,zJ, F2.len, F2.get, F2.get0, F2.set, F2.set0, g1, g2]
 apply callk_d (f := 29) (fn := Tryd.f29) (by kernel_rfl) (by rfl)
 ·exact clone_v 3 _ _ (.inl rfl) (by rw [List.length_map]; omega)
 have q1 : ((now.length + 1) * 24 ≤ 140737488355328) = True := eq_true (by omega)
 simp (maxSteps := 1000000) only [VL,VM,↓VG,reduceIte,reduceCtorEq,zA,zB,zC,zD,zE,zF,zG,zH,zI,zJ, F2.len, F2.get, F2.get0, F2.set, F2.set0, g1, g2, q1]
 generalize hl2 : now ++ [⟨c, (k : Int)⟩] = l2
 have hmap : now.map puP ++ [[PV.int .i64 c.x, .int .i64 c.y, .int .i64 k]] = l2.map puP := by rw [← hl2]; simp
 have hl2n : l2.length = now.length + 1 := by rw [← hl2]; simp
 rw [hmap]
 have hfold : (List.range (k + 1)).foldl (fun s (k : Nat) => if allowedB h (now ++ [⟨c, (k : Int)⟩]) then tryS h cs (now ++ [⟨c, (k : Int)⟩]) s else s) (b1, m1) = if allowedB h l2 then tryS h cs l2 (b2, m2) else (b2, m2) := by
  rw [List.range_succ, List.foldl_append, ← hst2, ← hl2]; rfl
 refine W_seq ?_
 ((repeat refine Ws ?_);refine Wr ?_)
 simp (maxSteps := 1000000) only [VL,VM,↓VG,reduceIte,reduceCtorEq,zA,zB,zC,zD,zE,zF,zG,zH,zI,zJ, F2.gh]
 apply call_eq (f := 26) (fn := Tryd.f26) (by kernel_rfl) (by rfl)
 ·exact checklayout_vm h l2 _ V (by omega)
 by_cases e2 : layErr h l2 = 0
 rotate_left
 ·have ea : allowedB h l2 = false := by unfold allowedB; rw [decide_eq_false e2]; rfl
  rw [ea] at hfold
  simp (maxSteps := 1000000) only [VL,VM,↓VG,reduceIte,reduceCtorEq,zA,zB,zC,zD,zE,zF,zG,zH,zI,zJ, e2]
  ((repeat refine Ws ?_);refine Wt (by first|rfl|simp only [EV,zF,reduceIte]) ?_)
  ((repeat refine Ws ?_);refine W_exit ?_)
  simp (maxSteps := 1000000) only [VL,VM,↓VG,reduceIte,reduceCtorEq,zA,zB,zC,zD,zE,zF,zG,zH,zI,zJ]
  ((repeat refine Ws ?_);refine Wr ?_)
  simp (maxSteps := 1000000) only [VL,VM,↓VG,reduceIte,reduceCtorEq,zA,zB,zC,zD,zE,zF,zG,zH,zI,zJ, k1]
  refine LoopK.mk (k + 1, (b2, m2), junk ++ [.clm (now.length + 1) 3]) (by simp only; omega) ⟨by simp only; omega, hfold.symm⟩ ⟨rfl, rfl, rfl, rfl, rfl, rfl, rfl, rfl, rfl, rfl, rfl, rfl, rfl, trivial⟩ (by simp)
 simp (maxSteps := 1000000) only [VL,VM,↓VG,reduceIte,reduceCtorEq,zA,zB,zC,zD,zE,zF,zG,zH,zI,zJ, e2, F2.gh]
 apply call_eq (f := 27) (fn := Tryd.f27) (by kernel_rfl) (by rfl)
 ·exact bears_vm h l2 _ V (lay_good e2) (by omega)
 by_cases e3 : verdictOf h l2 = 1
 rotate_left
 ·have ea : allowedB h l2 = false := by unfold allowedB; rw [decide_eq_false e3]; simp
  rw [ea] at hfold
  simp (maxSteps := 1000000) only [VL,VM,↓VG,reduceIte,reduceCtorEq,zA,zB,zC,zD,zE,zF,zG,zH,zI,zJ, e3]
  ((repeat refine Ws ?_);refine Wt (by first|rfl|simp only [EV,zF,reduceIte]) ?_)
  ((repeat refine Ws ?_);refine W_exit ?_)
  simp (maxSteps := 1000000) only [VL,VM,↓VG,reduceIte,reduceCtorEq,zA,zB,zC,zD,zE,zF,zG,zH,zI,zJ]
  ((repeat refine Ws ?_);refine Wr ?_)
  simp (maxSteps := 1000000) only [VL,VM,↓VG,reduceIte,reduceCtorEq,zA,zB,zC,zD,zE,zF,zG,zH,zI,zJ, k1]
  refine LoopK.mk (k + 1, (b2, m2), junk ++ [.clm (now.length + 1) 3]) (by simp only; omega) ⟨by simp only; omega, hfold.symm⟩ ⟨rfl, rfl, rfl, rfl, rfl, rfl, rfl, rfl, rfl, rfl, rfl, rfl, rfl, trivial⟩ (by simp)
 have ea : allowedB h l2 = true := by unfold allowedB; rw [decide_eq_true e2, decide_eq_true e3]; rfl
 rw [ea, if_pos rfl] at hfold
 simp (maxSteps := 1000000) only [VL,VM,↓VG,reduceIte,reduceCtorEq,zA,zB,zC,zD,zE,zF,zG,zH,zI,zJ, e3]
 ((repeat refine Ws ?_);refine Wf (by first|rfl|simp only [EV,zF,reduceIte]) ?_)
 ((repeat refine Ws ?_);refine W_skip ?_)
 simp (maxSteps := 1000000) only [VL,VM,↓VG,reduceIte,reduceCtorEq,zA,zB,zC,zD,zE,zF,zG,zH,zI,zJ]
 have f27 := fl_refs fl
 have f28 := hfl.len
 ((repeat refine Ws ?_);refine Wr ?_)
 simp (maxSteps := 1000000) only [VL,VM,↓VG,reduceIte,reduceCtorEq,zA,zB,zC,zD,zE,zF,zG,zH,zI,zJ, fc, f24, f25, f26, f27, f28, F2.len, F2.get, F2.get0, F2.set, F2.set0, g1, g2]
 have x0 := hcb.1
 have y0 := hcb.2.2.1
 have d1 : (c.y.toNat < 4) = True := eq_true (by omega)
 have d2 : (c.x.toNat < 6) = True := eq_true (by omega)
 have d3 : (c.y.toNat * 6 + (c.x.toNat + 1) ≤ 24) = True := eq_true (by omega)
 have hput := hfl.put (k := k) V (open_mem hcm) hsort (by omega)
 rw [hl2] at hput
 have d4 : (fl.take (c.y.toNat * 6 + c.x.toNat)).map vi ++ vi ((k : Int) + 1) :: (fl.drop (c.y.toNat * 6 + (c.x.toNat + 1))).map vi = (fl.set (c.y.toNat * 6 + c.x.toNat) ((k : Int) + 1)).map vi := by
  rw [List.set_eq_take_append_cons_drop, if_pos (by omega), List.map_append, List.map_cons]; rfl
 generalize fl.set (c.y.toNat * 6 + c.x.toNat) ((k : Int) + 1) = fl2 at hput d4
 have e24 : (24 ≤ fl2.length) = True := eq_true (by rw [hput.len]; omega)
 have e25 : fl2.take 24 = fl2 := List.take_of_length_le (by rw [hput.len]; omega)
 have e26 := fl_strip fl2
 (repeat refine Ws ?_)
 refine W_drawP T_ok [] (by kernel_rfl) (by kernel_rfl) ?_
 generalize hi : mkPlan _ = infs
 cbv at hi
 subst hi
 simp (maxSteps := 1000000) only [VL,VM,↓VG,reduceIte,reduceCtorEq,zA,zB,zC,zD,zE,zF,zG,zH,zI,zJ, f28, k1, x0, y0, d1, d2, d3, d4, F2.len, F2.get, F2.get0, F2.set, F2.set0, g1, g2]
 have hn1 : n + 1 ≤ (openL h).length := by
  have := (List.getElem?_eq_some_iff.1 hc0).1
  omega
 have n1 : -9223372036854775808 ≤ (n : Int) + 1 ∧ (n : Int) + 1 < 9223372036854775808 := by omega
 have kv := V.kind _ (List.getElem_mem hlt)
 have r0 := kv.rent0
 have r1 := kv.rent1
 have hre2 : rentOf h now + h.kinds[k].rent = rentOf h l2 := by rw [← hl2, rent_snoc, kAt_get hlt]
 have n3 : -9223372036854775808 ≤ rentOf h now + h.kinds[k].rent ∧ rentOf h now + h.kinds[k].rent < 9223372036854775808 := by omega
 generalize h.kinds[k] = kd at hkk r0 r1 hre2 n3
 (repeat refine Ws ?_)
 refine W_drawP T_ok [] (by kernel_rfl) (by kernel_rfl) ?_
 generalize hi : mkPlan _ = infs
 cbv at hi
 subst hi
 simp (maxSteps := 1000000) only [VL,VM,↓VG,reduceIte,reduceCtorEq,zA,zB,zC,zD,zE,zF,zG,zH,zI,zJ, e24, e25, e26, n1, n3, hkk, F2.len, F2.get, F2.get0, F2.set, F2.set0, F2.gt, F2.gh]
 apply call_dc (f := 31) (fn := Tryd.f31) (by kernel_rfl) (by rfl)
 ·rw [hre2]
  have := hind c cs rfl _ _ (F2.ext (junk ++ [.clm (now.length + 1) 3, .obj (fl2.map vi)])) l2 fl2 b2 m2 (lg ++ Y) (n + 1) hcs' hn1 hput ea
  exact this
 simp (maxSteps := 1000000) only [VL,VM,↓VG,reduceIte,reduceCtorEq,zA,zB,zC,zD,zE,zF,zG,zH,zI,zJ, e24, e25, e26, n1, n3, hkk, F2.len, F2.get, F2.get0, F2.set, F2.set0, F2.gt, F2.gh]
 ((repeat refine Ws ?_);refine Wr ?_)
 simp (maxSteps := 1000000) only [VL,VM,↓VG,reduceIte,reduceCtorEq,zA,zB,zC,zD,zE,zF,zG,zH,zI,zJ, k1]
 refine LoopK.mk (k + 1, tryS h cs l2 (b2, m2), junk ++ [.clm (now.length + 1) 3, .obj (fl2.map vi)]) (by simp only; omega) ⟨by simp only; omega, hfold.symm⟩ ⟨rfl, rfl, rfl, rfl, rfl, rfl, rfl, rfl, rfl, rfl, rfl, rfl, rfl, trivial⟩ (by simp)
theorem try_vm (h : Ha) (V : VH h) (hop : (openL h).length ≤ 8) (g ih im ib id io it : Nat) : ∀ cs : List Pl, TrySpec h g ih im ib id io it cs
 | [] => try_step h V hop g ih im ib id io it [] fun c cs' e => by cases e
 | c :: cs => try_step h V hop g ih im ib id io it (c :: cs) fun d cs' e => by
  obtain ⟨_, rfl⟩ := List.cons.inj e
  exact try_vm h V hop g ih im ib id io it cs
end Go.Proofs.YtnjgdlmddlinaaaDoor.Vm
