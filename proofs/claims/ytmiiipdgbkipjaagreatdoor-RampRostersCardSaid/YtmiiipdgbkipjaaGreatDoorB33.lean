/- A part of the proofs about the chapter of the ramps; it states no condition of its own. -/
import Derived.Test.YtmiiipdgbkipjaaGreatDoorB13
import Derived.Test.YtmiiipdgbkipjaaGreatDoorB15
import Derived.Test.YtmiiipdgbkipjaaGreatDoorB16
import Derived.Test.YtmiiipdgbkipjaaGreatDoorB31
import Derived.Test.YtmiiipdgbkipjaaGreatDoorB32
set_option linter.unusedVariables false
set_option linter.unusedSimpArgs false
open Int renaming reduceLE → zA, reduceLT → zB, reduceToNat → zC, reduceNeg → zD
open Nat renaming reduceLT → zE, reduceEqDiff → zF, reduceAdd → zG, reduceSub → zH, reduceMul → zI, reduceLeDiff → zJ
/- Plain: a row of a word and numbers, as it is read. -/
namespace Go.Proofs.YtmiiipdgbkipjaaGreatDoor
open Go
def numsR (m : Nat) : List By → Option (List Int)
 | [] => some []
 | w :: ws => match numR m w, numsR m ws with
  | some n, some l => some (n :: l)
  | _, _ => none
theorem numsR_app (m : Nat) : ∀ (a b : List By), numsR m (a ++ b) = match numsR m a, numsR m b with
  | some l, some k => some (l ++ k)
  | _, _ => none
 | [], b => by
  simp only [List.nil_append, numsR]
  cases numsR m b <;> rfl
 | w :: a, b => by
  simp only [List.cons_append, numsR, numsR_app m a b]
  cases numR m w <;> cases numsR m a <;> cases numsR m b <;> rfl
theorem numsR_len {m : Nat} : ∀ {ws : List By} {l : List Int}, numsR m ws = some l → l.length = ws.length
 | [], l, h => by cases h; rfl
 | w :: ws, l, h => by
  simp only [numsR] at h
  split at h
  ·rename_i n k h1 h2
   cases h
   rw [List.length_cons, List.length_cons, numsR_len h2]
  ·cases h
def parseR (m : Nat) (s : By) : Option (By × List Int) := (numsR m ((cutL 32 s).drop 1)).map fun l => ((cutL 32 s).headD [], l)
theorem cutL_pos (c : UInt8) (s : By) : 0 < (cutL c s).length := List.length_pos_iff.2 (cutL_ne c s)
theorem cutL_len (c : UInt8) : ∀ s : By, (cutL c s).length ≤ s.length + 1
 | [] => by simp [cutL]
 | x :: r => by
  have := cutL_len c r
  rw [cutL]
  split
  ·simp; omega
  ·split
   ·simp
   ·rename_i p ps he
    rw [he] at this
    simp at this ⊢
    omega
theorem cutL_part (c : UInt8) : ∀ (s : By), ∀ p ∈ cutL c s, p.length ≤ s.length
 | [], p, h => by simp [cutL] at h; simp [h]
 | x :: r, p, h => by
  have ih := cutL_part c r
  rw [cutL] at h
  split at h
  ·rcases List.mem_cons.1 h with rfl | h
   ·simp
   ·have := ih p h; simp; omega
  ·split at h
   ·rename_i he
    exact absurd he (cutL_ne c r)
   ·rename_i q qs he
    rw [he] at ih
    rcases List.mem_cons.1 h with rfl | h
    ·have := ih q (by simp); simp; omega
    ·have := ih p (List.mem_cons_of_mem _ h); simp; omega
theorem numsR_step {m : Nat} {ws : List By} {i : Nat} {l : List Int} (h1 : 1 ≤ i) (hi : i < ws.length) (h : numsR m ((ws.take i).drop 1) = some l) : numsR m ((ws.take (i + 1)).drop 1) = match numR m ws[i] with
  | some n => some (l ++ [n])
  | none => none := by
 rw [List.take_succ_eq_append_getElem hi, List.drop_append_of_le_length (by rw [List.length_take]; omega), numsR_app, h]
 simp only [numsR]
 cases numR m ws[i] <;> rfl
theorem numsR_none {m : Nat} {ws : List By} {i : Nat} (h1 : 1 ≤ i) (hi : i ≤ ws.length) (h : numsR m ((ws.take i).drop 1) = none) : numsR m (ws.drop 1) = none := by
 have e : ws.drop 1 = (ws.take i).drop 1 ++ ws.drop i := by
  conv => lhs; rw [← List.take_append_drop i ws]
  rw [List.drop_append_of_le_length (by rw [List.length_take]; omega)]
 rw [e, numsR_app, h]
end Go.Proofs.YtmiiipdgbkipjaaGreatDoor

/- The reference's parse, on values. (Vm) -/
namespace Go.Proofs.YtmiiipdgbkipjaaGreatDoor.Vm
open Go Go.Proofs
theorem own_ret3t {T : Tab} {f : Nat} {fn : Func} {M : Mem} {L : List VObj} {e : Env} {t t' t'' : Nat} {X Y Z : VV} (h1 : fn.results.toList = [.tmp t, .tmp t', .tmp t'']) (hr : frz M.H.length (M.H ++ L) (get e t) = X) (hr' : frz M.H.length (M.H ++ L) (get e t') = Y) (hr'' : frz M.H.length (M.H ++ L) (get e t'') = Z) (h2 : refs X = []) (h2' : refs Y = []) (h2'' : refs Z = []) : ownQ T f fn M (fun r M' => M' = M ∧ r = .tup [X, Y, Z]) .ret e ⟨M.H ++ L, M.lg⟩ [] :=
 own_ret (vs := [get e t, get e t', get e t'']) (by rw [h1]; rfl) (by simp only [vtup, frz, frzL, hr, hr', hr'']) (by simp [refs, refsL, h2, h2', h2'']) ⟨rfl, rfl⟩
def parseT (m : Nat) (s : By) : VV := match parseR m s with
 | some (w, l) => .tup [vs w, intsV l, vb true]
 | none => .tup [vs [], .p (.sl 0 []), vb false]
structure ParS where
 i : Nat
 l : List Int
set_option maxHeartbeats 1000000 in
theorem rparse_v (s : By) (M : Mem) (hs : s.length ≤ 100000) : VC Tryz.prog 39 [vs s] M (fun r M' => M' = M ∧ r = parseT 7 s) := by
 refine VC_own' T_ok (f := 39) (fn := Tryz.f39) (by kernel_rfl) rfl Tryz.ntmps39 (by rfl) (by rfl) ?_
 ((repeat refine Ws ?_);refine W_regionE T_ok ?_; intro Kn hKn)
 ((simp (maxSteps := 1000000) only [VL,VM,↓VG,reduceIte,reduceCtorEq,zA,zB,zC,zD,zE,zF,zG,zH,zI,zJ]); rw [hKn];clear hKn Kn;simp only [QV,reduceIte,reduceCtorEq,Nat.reduceEqDiff])
 have hlen := cutL_len 32 s
 have hpos := cutL_pos 32 s
 have hpart := cutL_part 32 s
 ((repeat refine Ws ?_);refine W_regionE T_ok ?_; intro Kn hKn)
 simp (maxSteps := 1000000) only [VL,VM,↓VG,reduceIte,reduceCtorEq,zA,zB,zC,zD,zE,zF,zG,zH,zI,zJ]
 apply call_eq (f := 38) (fn := Tryz.f38) (by kernel_rfl) (by rfl)
 ·exact rsplit_v 32 s _ (by omega)
 ((simp (maxSteps := 1000000) only [VL,VM,↓VG,reduceIte,reduceCtorEq,zA,zB,zC,zD,zE,zF,zG,zH,zI,zJ]); rw [hKn];clear hKn Kn;simp only [QV,reduceIte,reduceCtorEq,Nat.reduceEqDiff])
 have hparse : parseR 7 s = (numsR 7 ((cutL 32 s).drop 1)).map fun l => ((cutL 32 s).headD [], l) := rfl
 generalize cutL 32 s = ws at hlen hpos hpart hparse ⊢
 ((repeat refine Ws ?_);refine W_regionE T_ok ?_; intro Kn hKn)
 ((simp (maxSteps := 1000000) only [VL,VM,↓VG,reduceIte,reduceCtorEq,zA,zB,zC,zD,zE,zF,zG,zH,zI,zJ]); rw [hKn];clear hKn Kn;simp only [QV,reduceIte,reduceCtorEq,Nat.reduceEqDiff])
 (repeat refine Ws ?_)
 refine W_tok (t := 6) (k := 1) rfl ?_
 ((repeat refine Ws ?_);refine W_regionE T_ok ?_; intro Kn hKn)
 ((simp (maxSteps := 1000000) only [VL,VM,↓VG,reduceIte,reduceCtorEq,zA,zB,zC,zD,zE,zF,zG,zH,zI,zJ]); rw [hKn];clear hKn Kn;simp only [QV,reduceIte,reduceCtorEq,Nat.reduceEqDiff])
 ((repeat refine Ws ?_);refine W_block ?_; (repeat refine Ws ?_)); refine W_loopS (fun z : ParS => [(5, strsW ws), (6, .so M.H.length 1 (z.l.map intP)), (7, vi z.i)]) (fun z => ⟨M.H ++ [.clm z.l.length 1], M.lg⟩) (fun z => ws.length - z.i) (fun z => 1 ≤ z.i ∧ z.i ≤ ws.length ∧ numsR 7 ((ws.take z.i).drop 1) = some z.l) ⟨1, []⟩ ⟨Nat.le_refl _, hpos, by simp [numsR]⟩ ⟨rfl, rfl, rfl, trivial⟩ (by simp) ?_
 rintro ⟨i, l⟩ ⟨h1, hi, hl⟩
 simp only at h1 hi hl
 have k1 : -9223372036854775808 ≤ (i : Int) + 1 ∧ (i : Int) + 1 < 9223372036854775808 := by omega
 have hll := numsR_len hl
 rw [List.length_drop, List.length_take] at hll
 ((repeat refine Ws ?_);refine W_regionE T_ok ?_; intro Kn hKn)
 rcases Nat.lt_or_ge i ws.length with hlt | hge
 rotate_left
 ·have k2 : ((i : Int) < (ws.length : Int)) = False := eq_false (by omega)
  obtain rfl : i = ws.length := by omega
  rw [List.take_length] at hl
  have hx := strs_at (List.getElem?_eq_getElem hpos)
  ((simp (maxSteps := 1000000) only [VL,VM,↓VG,reduceIte,reduceCtorEq,zA,zB,zC,zD,zE,zF,zG,zH,zI,zJ, strs_len, k2]); rw [hKn];clear hKn Kn;simp only [QV,reduceIte,reduceCtorEq,Nat.reduceEqDiff])
  ((repeat refine Ws ?_);refine Wf (by first|rfl|simp only [EV,zF,reduceIte]) ?_)
  (((repeat refine Ws ?_);refine W_exit ?_); simp only [QV,reduceIte,reduceCtorEq,Nat.reduceEqDiff])
  ((repeat refine Ws ?_);refine W_regionE T_ok ?_; intro Kn hKn)
  ((simp (maxSteps := 1000000) only [VL,VM,↓VG,reduceIte,reduceCtorEq,zA,zB,zC,zD,zE,zF,zG,zH,zI,zJ, hx]); rw [hKn];clear hKn Kn;simp only [QV,reduceIte,reduceCtorEq,Nat.reduceEqDiff])
  rw [show parseT 7 s = .tup [vs ws[0], intsV l, vb true] by
   unfold parseT
   rw [hparse, hl]
   simp only [Option.map_some]
   rw [show ws.headD [] = ws[0] by rw [List.headD_eq_head?_getD, List.head?_eq_getElem?, List.getElem?_eq_getElem hpos]; rfl]]
  (repeat refine Ws ?_)
  refine W_ret ?_
  try simp only [thenQ, blockQ]
  refine own_ret3t rfl ?_ ?_ ?_ (by rfl) (by rfl) (by rfl)
  ·simp only [get_cons, frz, vtup, Nat.reduceEqDiff, if_true, if_false, reduceIte]
  ·simp only [get_cons, frz, vtup, Nat.reduceEqDiff, if_true, if_false, reduceIte]
  ·simp only [get_cons, frz, vtup, Nat.reduceEqDiff, if_true, if_false, reduceIte]
 have k2 : ((i : Int) < (ws.length : Int)) = True := eq_true (by omega)
 have hx := strs_at (List.getElem?_eq_getElem hlt)
 have hst := numsR_step h1 hlt hl
 have hp := hpart ws[i] (List.getElem_mem hlt)
 ((simp (maxSteps := 1000000) only [VL,VM,↓VG,reduceIte,reduceCtorEq,zA,zB,zC,zD,zE,zF,zG,zH,zI,zJ, strs_len, k2]); rw [hKn];clear hKn Kn;simp only [QV,reduceIte,reduceCtorEq,Nat.reduceEqDiff])
 ((repeat refine Ws ?_);refine Wt (by first|rfl|simp only [EV,zF,reduceIte]) ?_)
 (((repeat refine Ws ?_);refine W_skip ?_); simp only [QV,reduceIte,reduceCtorEq,Nat.reduceEqDiff])
 ((repeat refine Ws ?_);refine W_block ?_)
 ((repeat refine Ws ?_);refine W_regionE T_ok ?_; intro Kn hKn)
 simp (maxSteps := 1000000) only [VL,VM,↓VG,reduceIte,reduceCtorEq,zA,zB,zC,zD,zE,zF,zG,zH,zI,zJ, hx]
 apply call_eq (f := 65) (fn := Tryz.f65) (by kernel_rfl) (by rfl)
 ·exact rnumber_v ws[i] _ (by omega)
 cases hn : numR 7 ws[i] with
 | none =>
  have hT : numT 7 ws[i] = (0, false) := by unfold numT; rw [hn]
  rw [hn] at hst
  ((simp (maxSteps := 1000000) only [VL,VM,↓VG,reduceIte,reduceCtorEq,zA,zB,zC,zD,zE,zF,zG,zH,zI,zJ, hT]); rw [hKn];clear hKn Kn;simp only [QV,reduceIte,reduceCtorEq,Nat.reduceEqDiff])
  ((repeat refine Ws ?_);refine W_regionE T_ok ?_; intro Kn hKn)
  ((simp (maxSteps := 1000000) only [VL,VM,↓VG,reduceIte,reduceCtorEq,zA,zB,zC,zD,zE,zF,zG,zH,zI,zJ]); rw [hKn];clear hKn Kn;simp only [QV,reduceIte,reduceCtorEq,Nat.reduceEqDiff])
  ((repeat refine Ws ?_);refine Wt (by first|rfl|simp only [EV,zF,reduceIte]) ?_)
  ((repeat refine Ws ?_);refine W_regionE T_ok ?_; intro Kn hKn)
  ((simp (maxSteps := 1000000) only [VL,VM,↓VG,reduceIte,reduceCtorEq,zA,zB,zC,zD,zE,zF,zG,zH,zI,zJ]); rw [hKn];clear hKn Kn;simp only [QV,reduceIte,reduceCtorEq,Nat.reduceEqDiff])
  rw [show parseT 7 s = .tup [vs [], .p (.sl 0 []), vb false] by
   unfold parseT
   rw [hparse, numsR_none (i := i + 1) (by omega) (by omega) hst]
   rfl]
  (repeat refine Ws ?_)
  refine W_ret ?_
  try simp only [thenQ, blockQ]
  refine own_ret3t rfl ?_ ?_ ?_ (by rfl) (by rfl) (by rfl)
  ·simp only [get_cons, frz, vtup, Nat.reduceEqDiff, if_true, if_false, reduceIte]
   rfl
  ·simp only [get_cons, frz, vtup, Nat.reduceEqDiff, if_true, if_false, reduceIte]
  ·simp only [get_cons, frz, vtup, Nat.reduceEqDiff, if_true, if_false, reduceIte]
 | some n =>
  have hT : numT 7 ws[i] = (n, true) := by unfold numT; rw [hn]
  rw [hn] at hst
  have q1 : ((l.length + 1) * 8 ≤ 140737488355328) = True := eq_true (by omega)
  ((simp (maxSteps := 1000000) only [VL,VM,↓VG,reduceIte,reduceCtorEq,zA,zB,zC,zD,zE,zF,zG,zH,zI,zJ, hT]); rw [hKn];clear hKn Kn;simp only [QV,reduceIte,reduceCtorEq,Nat.reduceEqDiff])
  ((repeat refine Ws ?_);refine W_regionE T_ok ?_; intro Kn hKn)
  ((simp (maxSteps := 1000000) only [VL,VM,↓VG,reduceIte,reduceCtorEq,zA,zB,zC,zD,zE,zF,zG,zH,zI,zJ]); rw [hKn];clear hKn Kn;simp only [QV,reduceIte,reduceCtorEq,Nat.reduceEqDiff])
  ((repeat refine Ws ?_);refine Wf (by first|rfl|simp only [EV,zF,reduceIte]) ?_)
  (((repeat refine Ws ?_);refine W_skip ?_); simp only [QV,reduceIte,reduceCtorEq,Nat.reduceEqDiff])
  ((repeat refine Ws ?_);refine W_regionE T_ok ?_; intro Kn hKn)
  ((simp (maxSteps := 1000000) only [VL,VM,↓VG,reduceIte,reduceCtorEq,zA,zB,zC,zD,zE,zF,zG,zH,zI,zJ, q1]); rw [hKn];clear hKn Kn;simp only [QV,reduceIte,reduceCtorEq,Nat.reduceEqDiff])
  ((repeat refine Ws ?_);refine W_regionE T_ok ?_; intro Kn hKn)
  ((simp (maxSteps := 1000000) only [VL,VM,↓VG,reduceIte,reduceCtorEq,zA,zB,zC,zD,zE,zF,zG,zH,zI,zJ, k1]); rw [hKn];clear hKn Kn;simp only [QV,reduceIte,reduceCtorEq,Nat.reduceEqDiff])
  refine LoopK.mk ⟨i + 1, l ++ [n]⟩ (by simp only; omega) ⟨by simp only; omega, by simp only; omega, hst⟩ ⟨rfl, ?_, rfl, trivial⟩ ?_
  ·simp [get_cons]
  ·simp
end Go.Proofs.YtmiiipdgbkipjaaGreatDoor.Vm

/- Plain: what is read of a roster. -/
namespace Go.Proofs.YtmiiipdgbkipjaaGreatDoor
open Go
def y0 : Ya := ⟨[], [], 0⟩
def raOf (l : List Int) : Ra := ⟨l.getD 0 0, l.getD 1 0, l.getD 2 0⟩
def ctOf (l : List Int) : Ct := ⟨l.getD 0 0, l.getD 1 0, ⟨l.getD 2 0, l.getD 3 0⟩, l.getD 4 0, l.drop 5⟩
def rsPut (i : Nat) (y : Ya) (w : By) (l : List Int) : Option (Ya × Bool) :=
 if i = 0 then (if w = wYard ∧ l.length = 1 then some ({ y with sweep := l.getD 0 0 }, false) else none)
 else if w = wRamp ∧ l.length = 3 ∧ y.carts.length = 0 then some ({ y with ramps := y.ramps ++ [raOf l] }, false)
 else if w = wCart ∧ 5 ≤ l.length then some ({ y with carts := y.carts ++ [ctOf l] }, false)
 else if w = wEnd ∧ l.length = 1 then (if l.getD 0 0 = (y.carts.length : Int) then some (y, true) else none)
 else none
def rsStep (i : Nat) (st : Ya × Bool) (row : By) : Option (Ya × Bool) := match parseR 7 row with
 | none => none
 | some (w, l) => if st.2 then none else rsPut i st.1 w l
def rsRun : Nat → Ya × Bool → List By → Nat ⊕ (Ya × Bool)
 | _, st, [] => .inr st
 | i, st, r :: rs => match rsStep i st r with
  | none => .inl i
  | some st' => rsRun (i + 1) st' rs
def rsEnd (rows : List By) (st : Ya × Bool) : Ya × Int × Int :=
 if st.2 = false ∨ rows.getD (rows.length - 1) [] ≠ [] then (y0, (rows.length : Int), 2)
 else if yErr st.1 = 0 then (st.1, 0, 0) else (y0, 0, yErr st.1)
def rsRead (s : By) : Ya × Int × Int :=
 if 1500 < s.length then (y0, 0, 10)
 else match rsRun 0 (y0, false) ((cutL 10 s).take ((cutL 10 s).length - 1)) with
  | .inl i => (y0, (i : Int) + 1, 2)
  | .inr st => rsEnd (cutL 10 s) st
theorem rsRun_app : ∀ (a b : List By) (i : Nat) (st : Ya × Bool), rsRun i st (a ++ b) = match rsRun i st a with
  | .inl k => .inl k
  | .inr st' => rsRun (i + a.length) st' b
 | [], b, i, st => rfl
 | r :: a, b, i, st => by
  simp only [List.cons_append, rsRun]
  cases rsStep i st r with
  | none => rfl
  | some st' =>
   simp only
   rw [rsRun_app a b (i + 1) st', List.length_cons, show i + 1 + a.length = i + (a.length + 1) by omega]
theorem rsRun_step {rows : List By} {i : Nat} {st : Ya × Bool} (hi : i < rows.length) (h : rsRun 0 (y0, false) (rows.take i) = .inr st) : rsRun 0 (y0, false) (rows.take (i + 1)) = match rsStep i st rows[i] with
  | none => .inl i
  | some st' => .inr st' := by
 rw [List.take_succ_eq_append_getElem hi, rsRun_app, h]
 simp only
 rw [show 0 + (rows.take i).length = i by rw [List.length_take]; omega]
 simp only [rsRun]
theorem rsRun_bad {rows : List By} {i n k : Nat} (hn : i ≤ n) (h : rsRun 0 (y0, false) (rows.take i) = .inl k) : rsRun 0 (y0, false) (rows.take n) = .inl k := by
 have e : rows.take n = rows.take i ++ (rows.drop i).take (n - i) := by
  rw [show n = i + (n - i) by omega, List.take_add]
  simp
 rw [e, rsRun_app, h]
structure RsOk (i : Nat) (y : Ya) : Prop where
 r : y.ramps.length ≤ i
 c : y.carts.length ≤ i
 l : ∀ c ∈ y.carts, c.ramps.length ≤ 100000
theorem parseR_len {m : Nat} {s w : By} {l : List Int} (h : parseR m s = some (w, l)) : l.length ≤ s.length := by
 unfold parseR at h
 obtain ⟨k, h1, h2⟩ := Option.map_eq_some_iff.1 h
 cases h2
 rw [numsR_len h1, List.length_drop]
 have := cutL_len 32 s
 omega
theorem rsPut_ok {i : Nat} {y y' : Ya} {b : Bool} {w : By} {l : List Int} (h : rsPut i y w l = some (y', b)) (hy : RsOk i y) (hl : l.length ≤ 100000) : RsOk (i + 1) y' := by
 have hr := hy.r
 have hc := hy.c
 unfold rsPut at h
 split at h
 ·split at h
  ·cases h; exact ⟨by simp only; omega, by simp only; omega, hy.l⟩
  ·cases h
 ·split at h
  ·cases h; exact ⟨by simp; omega, by simp only; omega, hy.l⟩
  ·split at h
   ·cases h
    refine ⟨by simp only; omega, by simp; omega, fun c hcc => ?_⟩
    rcases List.mem_append.1 hcc with h1 | h1
    ·exact hy.l c h1
    ·simp only [List.mem_singleton] at h1
     subst h1
     simp only [ctOf, List.length_drop]
     omega
   ·split at h
    ·split at h
     ·cases h; exact ⟨by omega, by omega, hy.l⟩
     ·cases h
    ·cases h
theorem rsStep_ok {i : Nat} {st st' : Ya × Bool} {row : By} (h : rsStep i st row = some st') (hy : RsOk i st.1) (hl : row.length ≤ 100000) : RsOk (i + 1) st'.1 := by
 unfold rsStep at h
 split at h
 ·cases h
 ·rename_i w l hp
  split at h
  ·cases h
  ·have := parseR_len hp
   exact rsPut_ok (b := st'.2) h hy (by omega)
end Go.Proofs.YtmiiipdgbkipjaaGreatDoor

/- A weaker view of an object's cell. (Vm) -/
namespace Go.Proofs.YtmiiipdgbkipjaaGreatDoor.Vm
open Go Go.Proofs
section
variable {P : Program} {T : Tab} {cx : Cx} {e : Env} {M : Mem} {D : List Nat} {Q : PQ} {c : Code}
theorem W_nilobj {id off k k0 : Nat} {cs : List VV} (ho : M.H[id]? = some (.obj cs)) (hc : cs[off]? = some (.sf k0 [])) (h : WCode P cx c e ⟨M.H.set id (.obj (cs.set off (.p (.sl k [])))), M.lg⟩ D Q) : WCode P cx c e M D Q := by
 intro G w K a hs
 have i1 := hs.inv
 have hil := (List.getElem?_eq_some_iff.1 ho).1
 have hs2 : ∀ j x, (M.H.set id (.obj (cs.set off (.p (.sl k [])))))[j]? = some x → (j = id ∧ x = .obj (cs.set off (.p (.sl k [])))) ∨ (j ≠ id ∧ M.H[j]? = some x) := fun j x hx => by
  rcases set_get hx with ⟨rfl, rfl, _⟩ | ⟨h1, h2⟩
  ·exact .inl ⟨rfl, rfl⟩
  ·exact .inr ⟨h1, h2⟩
 have hE : Ext w K M.H w K (M.H.set id (.obj (cs.set off (.p (.sl k []))))) := by
  refine ⟨Nat.le_refl _, Szp.refl _, fun b o _ him i ob hi hb => ?_, fun _ _ _ _ => rfl, fun i o hi => ?_⟩
  ·rcases hs2 i ob hi with ⟨rfl, rfl⟩ | ⟨_, h2⟩
   ·rcases him i _ ho hb with e2 | ⟨m, k', e2, _⟩
    ·exact e2.elim
    ·cases e2
   ·exact him i ob h2 hb
  ·by_cases h1 : i = id
   ·subst h1
    rw [ho] at hi
    cases hi
    exact ⟨.obj (cs.set off (.p (.sl k []))), by simp [hil], fun _ _ e => VObj.noConfusion e, rfl⟩
   ·refine ⟨o, by rw [List.getElem?_set_ne (Ne.symm h1)]; exact hi, ?_⟩
    exact objLe_same rfl fun b _ => rfl
 have hI2 : Inv G w K { H := M.H.set id (.obj (cs.set off (.p (.sl k [])))), lg := M.lg } := by
  refine ⟨i1.os, i1.tape, i1.output, i1.size, i1.gB, i1.old, inj_set i1 (by simp) (gone_set ho (fun e => by cases e)), fun i b hi => i1.blk i b (by simpa using hi), fun i o hi => ?_, fun i o hi cc hcc r hr => ?_, fun en hen => ?_, fun i L hi => ?_⟩
  ·rcases hs2 i o hi with ⟨rfl, rfl⟩ | ⟨h1, h2⟩
   ·intro b hb
    obtain ⟨vs, t, q1, q2, q3⟩ := i1.obj i _ ho b hb
    refine ⟨vs, t, q1, by simpa using q2, fun j v cv hv hcv => ?_⟩
    rw [List.getElem?_set] at hcv
    by_cases hj : off = j
    ·subst hj
     have hlt := (List.getElem?_eq_some_iff.1 hc).1
     rw [if_pos rfl, if_pos hlt] at hcv
     cases hcv
     obtain ⟨r1, r2⟩ := q3 off v _ hv hc
     refine ⟨?_, r2⟩
     cases r1 with
     | sf A _ _ h0 => exact .p _ _ (.sl A 0 k 0 0 [] (fun _ _ => undef) (Nat.le_refl _) (by simp [maxLen]) (fun x hx => by cases hx) (fun hx => absurd rfl hx) (fun i x j u hx => by simp at hx) (fun i x j u hx => by simp at hx) (fun i x j u hx => by simp at hx))
    ·rw [if_neg hj] at hcv
     obtain ⟨r1, r2⟩ := q3 j v cv hv hcv
     exact ⟨r1.ext hE (i1.content ho cv (by simp only [contents]; exact List.mem_of_getElem? hcv)), r2⟩
   ·exact (i1.obj i o h2).ext hE (fun _ _ => rfl) (i1.content h2)
  ·simp only [List.length_set]
   rcases hs2 i o hi with ⟨rfl, rfl⟩ | ⟨h1, h2⟩
   ·simp only [contents] at hcc
    rcases List.mem_or_eq_of_mem_set hcc with hm | rfl
    ·exact i1.cl i _ ho cc (by simp only [contents]; exact hm) r hr
    ·simp [refs] at hr
   ·exact i1.cl i o h2 cc hcc r hr
  ·simp only [List.length_set]
   exact i1.lg en hen
  ·rcases hs2 i _ hi with ⟨rfl, e2⟩ | ⟨_, h2⟩
   ·cases e2
   ·exact i1.lpd i L h2
 have hs3 : StOk cx G w K { H := M.H.set id (.obj (cs.set off (.p (.sl k [])))), lg := M.lg } a e D := ⟨hs.fr.ext (M' := { H := M.H.set id (.obj (cs.set off (.p (.sl k [])))), lg := M.lg }) hE, df_ext (M' := { H := M.H.set id (.obj (cs.set off (.p (.sl k [])))), lg := M.lg }) hE hs.df, hI2, (rd_ext (M' := { H := M.H.set id (.obj (cs.set off (.p (.sl k [])))), lg := M.lg }) hE hs.rd).1⟩
 have h2 := h G w _ a hs3
 exact wpIn_mono h2 fun ex a' w' ⟨e', M', K', D', q1, q2, q3, q4⟩ => ⟨e', M', K', D', q1, q2, q3, hE.trans q4⟩
end
end Go.Proofs.YtmiiipdgbkipjaaGreatDoor.Vm
