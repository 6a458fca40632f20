/- A part of the proofs about the chapter of the vaults; it states no condition of its own. -/
import Derived.Test.YtominlgikchnmaaGreatDoorB19
import Derived.Test.YtominlgikchnmaaGreatDoorB29
import Derived.Test.YtominlgikchnmaaGreatDoorB30
set_option linter.unusedVariables false
set_option linter.unusedSimpArgs false
open Int renaming reduceLE → zA, reduceLT → zB, reduceToNat → zC, reduceNeg → zD
open Nat renaming reduceLT → zE, reduceEqDiff → zF, reduceAdd → zG, reduceSub → zH, reduceMul → zI, reduceLeDiff → zJ
/- Ranges over the places of a hall. (Vm) -/
namespace Go.Proofs.YtominlgikchnmaaGreatDoor.Vm
open Go Go.Proofs
end Go.Proofs.YtominlgikchnmaaGreatDoor.Vm

/- Weaker views of a temporary and of an object; a cut behind a piece of code. (Vm) -/
namespace Go.Proofs.YtominlgikchnmaaGreatDoor.Vm
open Go Go.Proofs
section
variable {P : Program} {T : Tab} {cx : Cx} {e : Env} {M : Mem} {D : List Nat} {Q : PQ} {c : Code}
theorem W_nilobj {id off k k0 : Nat} {cs : List VV} (ho : M.H[id]? = some (.obj cs)) (hc : cs[off]? = some (.sf k0 [])) (h : WCode P cx c e ⟨M.H.set id (.obj (cs.set off (.p (.sl k [])))), M.lg⟩ D Q) : WCode P cx c e M D Q := by
 intro G w K a hs
 have i1 := hs.inv
 have hil := (List.getElem?_eq_some_iff.1 ho).1
 have hs2 : ∀ j x, (M.H.set id (.obj (cs.set off (.p (.sl k [])))))[j]? = some x → (j = id ∧ x = .obj (cs.set off (.p (.sl k [])))) ∨ (j ≠ id ∧ M.H[j]? = some x) := fun j x hx => by
  rcases set_get hx with ⟨rfl, rfl, _⟩ | ⟨h1, h2⟩
  ·exact .inl ⟨rfl, rfl⟩
  ·exact .inr ⟨h1, h2⟩
 have hE : Ext w K M.H w K (M.H.set id (.obj (cs.set off (.p (.sl k []))))) := by
  refine ⟨Nat.le_refl _, Szp.refl _, fun b o _ him i ob hi hb => ?_, fun _ _ _ _ => rfl, fun i o hi => ?_⟩
  ·rcases hs2 i ob hi with ⟨rfl, rfl⟩ | ⟨_, h2⟩
   ·rcases him i _ ho hb with e2 | ⟨m, k', e2, _⟩
    ·exact e2.elim
    ·cases e2
   ·exact him i ob h2 hb
  ·by_cases h1 : i = id
   ·subst h1
    rw [ho] at hi
    cases hi
    exact ⟨.obj (cs.set off (.p (.sl k []))), by simp [hil], fun _ _ e => VObj.noConfusion e, rfl⟩
   ·refine ⟨o, by rw [List.getElem?_set_ne (Ne.symm h1)]; exact hi, ?_⟩
    exact objLe_same rfl fun b _ => rfl
 have hI2 : Inv G w K { H := M.H.set id (.obj (cs.set off (.p (.sl k [])))), lg := M.lg } := by
  refine ⟨i1.os, i1.tape, i1.output, i1.size, i1.gB, i1.old, inj_set i1 (by simp) (gone_set ho (fun e => by cases e)), fun i b hi => i1.blk i b (by simpa using hi), fun i o hi => ?_, fun i o hi cc hcc r hr => ?_, fun en hen => ?_, fun i L hi => ?_⟩
  ·rcases hs2 i o hi with ⟨rfl, rfl⟩ | ⟨h1, h2⟩
   ·intro b hb
    obtain ⟨vs, t, q1, q2, q3⟩ := i1.obj i _ ho b hb
    refine ⟨vs, t, q1, by simpa using q2, fun j v cv hv hcv => ?_⟩
    rw [List.getElem?_set] at hcv
    by_cases hj : off = j
    ·subst hj
     have hlt := (List.getElem?_eq_some_iff.1 hc).1
     rw [if_pos rfl, if_pos hlt] at hcv
     cases hcv
     obtain ⟨r1, r2⟩ := q3 off v _ hv hc
     refine ⟨?_, r2⟩
     cases r1 with
     | sf A _ _ h0 => exact .p _ _ (.sl A 0 k 0 0 [] (fun _ _ => undef) (Nat.le_refl _) (by simp [maxLen]) (fun x hx => by cases hx) (fun hx => absurd rfl hx) (fun i x j u hx => by simp at hx) (fun i x j u hx => by simp at hx) (fun i x j u hx => by simp at hx))
    ·rw [if_neg hj] at hcv
     obtain ⟨r1, r2⟩ := q3 j v cv hv hcv
     exact ⟨r1.ext hE (i1.content ho cv (by simp only [contents]; exact List.mem_of_getElem? hcv)), r2⟩
   ·exact (i1.obj i o h2).ext hE (fun _ _ => rfl) (i1.content h2)
  ·simp only [List.length_set]
   rcases hs2 i o hi with ⟨rfl, rfl⟩ | ⟨h1, h2⟩
   ·simp only [contents] at hcc
    rcases List.mem_or_eq_of_mem_set hcc with hm | rfl
    ·exact i1.cl i _ ho cc (by simp only [contents]; exact hm) r hr
    ·simp [refs] at hr
   ·exact i1.cl i o h2 cc hcc r hr
  ·simp only [List.length_set]
   exact i1.lg en hen
  ·rcases hs2 i _ hi with ⟨rfl, e2⟩ | ⟨_, h2⟩
   ·cases e2
   ·exact i1.lpd i L h2
 have hs3 : StOk cx G w K { H := M.H.set id (.obj (cs.set off (.p (.sl k [])))), lg := M.lg } a e D := ⟨hs.fr.ext (M' := { H := M.H.set id (.obj (cs.set off (.p (.sl k [])))), lg := M.lg }) hE, df_ext (M' := { H := M.H.set id (.obj (cs.set off (.p (.sl k [])))), lg := M.lg }) hE hs.df, hI2, (rd_ext (M' := { H := M.H.set id (.obj (cs.set off (.p (.sl k [])))), lg := M.lg }) hE hs.rd).1⟩
 have h2 := h G w _ a hs3
 exact wpIn_mono h2 fun ex a' w' ⟨e', M', K', D', q1, q2, q3, q4⟩ => ⟨e', M', K', D', q1, q2, q3, hE.trans q4⟩
theorem W_then {Kn : Env → Mem → List Nat → Prop} (E : Env) (M1 : Mem) (h1 : WCode P cx c e M D (fun ex e' M' D' => ex = .normal ∧ D' = D ∧ M' = M1 ∧ Sub E e')) (h2 : ∀ e', Sub E e' → Kn e' M1 D) : WCode P cx c e M D (thenQ Kn Q) :=
 h1.mono (by rintro ex e' M' D' ⟨rfl, rfl, rfl, hS⟩; exact h2 e' hS)
end
end Go.Proofs.YtominlgikchnmaaGreatDoor.Vm

/- The program's parse, on values. (Vm) -/
namespace Go.Proofs.YtominlgikchnmaaGreatDoor.Vm
open Go Go.Proofs
theorem v_neNil (b : Bool) : vbinK T .neq 81 (.p (.ifc b)) (.p (.ifc true)) (.const .nilIface) = some (vb (!b)) := by
 simp only [vbinK, t_error]
theorem numsR_noneT {m : Nat} {ws : List By} {i : Nat} (hi : i ≤ ws.length) (h : numsR m (ws.take i) = none) : numsR m ws = none := by
 have e : ws = ws.take i ++ ws.drop i := (List.take_append_drop i ws).symm
 rw [e, numsR_app, h]
set_option maxHeartbeats 2000000 in
theorem pparse_v (s : By) (M : Mem) (hs : s.length ≤ 100000) : VC Tryz.prog 41 [vs s] M (fun r M' => M' = M ∧ r = parseT 8 s) := by
 refine VC_own' T_ok (f := 41) (fn := Tryz.f41) (by kernel_rfl) rfl Tryz.ntmps41 (by rfl) (by rfl) ?_
 ((repeat refine Ws ?_);refine W_regionE T_ok ?_; intro Kn hKn)
 ((simp (maxSteps := 1000000) only [VL,VM,↓VG,reduceIte,reduceCtorEq,zA,zB,zC,zD,zE,zF,zG,zH,zI,zJ]); rw [hKn];clear hKn Kn;simp only [QV,reduceIte,reduceCtorEq,Nat.reduceEqDiff])
 have hlen := cutL_len 32 s
 have hpos := cutL_pos 32 s
 have hpart := cutL_part 32 s
 ((repeat refine Ws ?_);refine W_regionE T_ok ?_; intro Kn hKn)
 simp (maxSteps := 1000000) only [VL,VM,↓VG,reduceIte,reduceCtorEq,zA,zB,zC,zD,zE,zF,zG,zH,zI,zJ]
 apply call_eq (f := 40) (fn := Tryz.f40) (by kernel_rfl) (by rfl)
 ·exact split_v (l := s) (c := 32) (by omega) _
 ((simp (maxSteps := 1000000) only [VL,VM,↓VG,reduceIte,reduceCtorEq,zA,zB,zC,zD,zE,zF,zG,zH,zI,zJ]); rw [hKn];clear hKn Kn;simp only [QV,reduceIte,reduceCtorEq,Nat.reduceEqDiff])
 have hparse : parseR 8 s = (numsR 8 ((cutL 32 s).drop 1)).map fun l => ((cutL 32 s).headD [], l) := rfl
 generalize cutL 32 s = ws at hlen hpos hpart hparse ⊢
 have hws : (strsV ws).length = ws.length := strs_len ws
 have n0 : (1 ≤ ws.length) = True := eq_true hpos
 ((repeat refine Ws ?_);refine W_regionE T_ok ?_; intro Kn hKn)
 ((simp (maxSteps := 1000000) only [VL,VM,↓VG,reduceIte,reduceCtorEq,zA,zB,zC,zD,zE,zF,zG,zH,zI,zJ]); rw [hKn];clear hKn Kn;simp only [QV,reduceIte,reduceCtorEq,Nat.reduceEqDiff])
 ((repeat refine Ws ?_);refine W_regionE T_ok ?_; intro Kn hKn)
 ((simp (maxSteps := 1000000) only [VL,VM,↓VG,reduceIte,reduceCtorEq,zA,zB,zC,zD,zE,zF,zG,zH,zI,zJ, hws, n0, decide_true, Bool.and_true]); rw [hKn];clear hKn Kn;simp only [QV,reduceIte,reduceCtorEq,Nat.reduceEqDiff])
 (repeat refine Ws ?_)
 refine W_tok (t := 6) (k := 1) rfl ?_
 have hw1 : ((strsV ws).take ws.length).drop 1 = strsV (ws.drop 1) := by rw [← hws, List.take_length, strs_drop]
 obtain ⟨vs1, hvs⟩ : ∃ l, l = ws.drop 1 := ⟨_, rfl⟩
 have hv1 : vs1.length = ws.length - 1 := by rw [hvs, List.length_drop]
 have hvp : ∀ w ∈ vs1, w.length ≤ s.length := fun w hw => hpart w (by rw [hvs] at hw; exact List.mem_of_mem_drop hw)
 rw [← hvs] at hw1 hparse
 ((repeat refine Ws ?_);refine W_block ?_; (repeat refine Ws ?_)); refine W_loopS (fun z : ParS => [(5, strsW ws), (6, .so M.H.length 1 (z.l.map intP)), (14, strsW vs1), (15, vi vs1.length), (16, vi z.i)]) (fun z => ⟨M.H ++ [.clm z.l.length 1], M.lg⟩) (fun z => vs1.length - z.i) (fun z => z.i ≤ vs1.length ∧ numsR 8 (vs1.take z.i) = some z.l) ⟨0, []⟩ ⟨Nat.zero_le _, by simp [numsR]⟩ ⟨rfl, rfl, ?_, ?_, rfl, trivial⟩ (by simp [push_eq]) ?_
 ·simp only [get_cons, Nat.reduceEqDiff, reduceIte, hw1]
 ·simp only [get_cons, Nat.reduceEqDiff, reduceIte, List.length_drop, List.length_take, hws, Nat.min_self, hv1]
 rintro ⟨i, l⟩ ⟨hi, hl⟩
 simp only at hi hl
 have k1 : -9223372036854775808 ≤ (i : Int) + 1 ∧ (i : Int) + 1 < 9223372036854775808 := by omega
 have hll := numsR_len hl
 rw [List.length_take] at hll
 ((repeat refine Ws ?_);refine W_regionE T_ok ?_; intro Kn hKn)
 rcases Nat.lt_or_ge i vs1.length with hlt | hge
 rotate_left
 ·have k2 : ((i : Int) < (vs1.length : Int)) = False := eq_false (by omega)
  obtain rfl : i = vs1.length := by omega
  rw [List.take_length] at hl
  have hx := strs_at (List.getElem?_eq_getElem hpos)
  ((simp (maxSteps := 1000000) only [VL,VM,↓VG,reduceIte,reduceCtorEq,zA,zB,zC,zD,zE,zF,zG,zH,zI,zJ, k2]); rw [hKn];clear hKn Kn;simp only [QV,reduceIte,reduceCtorEq,Nat.reduceEqDiff])
  ((repeat refine Ws ?_);refine Wf (by first|rfl|simp only [EV,zF,reduceIte]) ?_)
  (((repeat refine Ws ?_);refine W_exit ?_); simp only [QV,reduceIte,reduceCtorEq,Nat.reduceEqDiff])
  ((repeat refine Ws ?_);refine W_regionE T_ok ?_; intro Kn hKn)
  ((simp (maxSteps := 1000000) only [VL,VM,↓VG,reduceIte,reduceCtorEq,zA,zB,zC,zD,zE,zF,zG,zH,zI,zJ, hx]); rw [hKn];clear hKn Kn;simp only [QV,reduceIte,reduceCtorEq,Nat.reduceEqDiff])
  rw [show parseT 8 s = .tup [vs ws[0], intsV l, vb true] by
   unfold parseT
   rw [hparse, hl]
   simp only [Option.map_some]
   rw [show ws.headD [] = ws[0] by rw [List.headD_eq_head?_getD, List.head?_eq_getElem?, List.getElem?_eq_getElem hpos]; rfl]]
  (repeat refine Ws ?_)
  refine W_ret ?_
  try simp only [thenQ, blockQ]
  refine own_ret3t rfl ?_ ?_ ?_ (by rfl) (by rfl) (by rfl)
  ·simp only [get_cons, frz, vtup, Nat.reduceEqDiff, if_true, if_false, reduceIte]
  ·simp only [get_cons, frz, vtup, Nat.reduceEqDiff, if_true, if_false, reduceIte]
  ·simp only [get_cons, frz, vtup, Nat.reduceEqDiff, if_true, if_false, reduceIte]
 have k2 : ((i : Int) < (vs1.length : Int)) = True := eq_true (by omega)
 have hx := strs_at (List.getElem?_eq_getElem hlt)
 have hst := numsR_take (m := 8) hlt
 have hp := hvp vs1[i] (List.getElem_mem hlt)
 have hfit := atoiV_fit vs1[i]
 have hnr := numR_atoi vs1[i]
 rw [hl] at hst
 generalize vs1[i] = wd at hx hst hp hfit hnr
 ((simp (maxSteps := 1000000) only [VL,VM,↓VG,reduceIte,reduceCtorEq,zA,zB,zC,zD,zE,zF,zG,zH,zI,zJ, k2]); rw [hKn];clear hKn Kn;simp only [QV,reduceIte,reduceCtorEq,Nat.reduceEqDiff])
 ((repeat refine Ws ?_);refine Wt (by first|rfl|simp only [EV,zF,reduceIte]) ?_)
 (((repeat refine Ws ?_);refine W_skip ?_); simp only [QV,reduceIte,reduceCtorEq,Nat.reduceEqDiff])
 ((repeat refine Ws ?_);refine W_block ?_)
 ((repeat refine Ws ?_);refine W_regionE T_ok ?_; intro Kn hKn)
 ((simp (maxSteps := 1000000) only [VL,VM,↓VG,reduceIte,reduceCtorEq,zA,zB,zC,zD,zE,zF,zG,zH,zI,zJ, hx]); rw [hKn];clear hKn Kn;simp only [QV,reduceIte,reduceCtorEq,Nat.reduceEqDiff])
 ((repeat refine Ws ?_);refine W_regionE T_ok ?_; intro Kn hKn)
 simp (maxSteps := 1000000) only [VL,VM,↓VG,reduceIte,reduceCtorEq,zA,zB,zC,zD,zE,zF,zG,zH,zI,zJ]
 apply call_eq (f := 69) (fn := Tryz.f69) (by kernel_rfl) (by rfl)
 ·exact atoi_v (s := wd) (by omega) _
 ((simp (maxSteps := 1000000) only [VL,VM,↓VG,reduceIte,reduceCtorEq,zA,zB,zC,zD,zE,zF,zG,zH,zI,zJ]); rw [hKn];clear hKn Kn;simp only [QV,reduceIte,reduceCtorEq,Nat.reduceEqDiff])
 (repeat refine Ws ?_)
 obtain ⟨ok, hok⟩ : ∃ ok : Bool, ok = decide ((atoiV wd).2 = true ∧ 0 ≤ (atoiV wd).1 ∧ wd.length ≤ 8 ∧ Lib.itoa (atoiV wd).1 = wd) := ⟨_, rfl⟩
 refine W_then [(5, strsW ws), (6, .so M.H.length 1 (l.map intP)), (9, vi (atoiV wd).1), (14, strsW vs1), (15, vi vs1.length), (16, vi i), (41, vb !ok)] ⟨M.H ++ [.clm l.length 1], M.lg⟩ ?_ ?_
 ·((repeat refine Ws ?_);refine Wr ?_)
  cases ho : (atoiV wd).2 with
  | false =>
   have : ok = false := by rw [hok]; simp [ho]
   rw [this]
   simp (maxSteps := 1000000) only [VL,VM,↓VG,reduceIte,reduceCtorEq,zA,zB,zC,zD,zE,zF,zG,zH,zI,zJ, ho, v_neNil]
   exact ⟨rfl, rfl, rfl, rfl, rfl, rfl, rfl, trivial⟩
  | true =>
   by_cases hx0 : (atoiV wd).1 < 0
   ·have n1 : ((atoiV wd).1 < 0) = True := eq_true hx0
    have : ok = false := by rw [hok]; simp; omega
    rw [this]
    simp (maxSteps := 1000000) only [VL,VM,↓VG,reduceIte,reduceCtorEq,zA,zB,zC,zD,zE,zF,zG,zH,zI,zJ, ho, v_neNil, n1]
    exact ⟨rfl, rfl, rfl, rfl, rfl, rfl, rfl, trivial⟩
   have n1 : ((atoiV wd).1 < 0) = False := eq_false hx0
   by_cases h8 : 8 < wd.length
   ·have n2 : ((8 : Int) < (wd.length : Int)) = True := eq_true (by omega)
    have : ok = false := by rw [hok]; simp; omega
    rw [this]
    simp (maxSteps := 1000000) only [VL,VM,↓VG,reduceIte,reduceCtorEq,zA,zB,zC,zD,zE,zF,zG,zH,zI,zJ, ho, v_neNil, n1, tx_size, n2]
    exact ⟨rfl, rfl, rfl, rfl, rfl, rfl, rfl, trivial⟩
   have n2 : ((8 : Int) < (wd.length : Int)) = False := eq_false (by omega)
   simp (maxSteps := 1000000) only [VL,VM,↓VG,reduceIte,reduceCtorEq,zA,zB,zC,zD,zE,zF,zG,zH,zI,zJ, ho, v_neNil, n1, tx_size, n2]
   apply call_eq (f := 35) (fn := Tryz.f35) (by kernel_rfl) (by rfl)
   ·exact itoa_v hfit.1 hfit.2 _
   by_cases hit : Lib.itoa (atoiV wd).1 = wd
   ·have n3 : (Lib.itoa (atoiV wd).1 = wd) = True := eq_true hit
    have : ok = true := by rw [hok]; simp [ho, hit]; omega
    rw [this]
    simp (maxSteps := 1000000) only [VL,VM,↓VG,reduceIte,reduceCtorEq,zA,zB,zC,zD,zE,zF,zG,zH,zI,zJ, v_neS, n3]
    exact ⟨rfl, rfl, rfl, rfl, rfl, rfl, rfl, trivial⟩
   ·have n3 : (Lib.itoa (atoiV wd).1 = wd) = False := eq_false hit
    have : ok = false := by rw [hok]; simp [hit]
    rw [this]
    simp (maxSteps := 1000000) only [VL,VM,↓VG,reduceIte,reduceCtorEq,zA,zB,zC,zD,zE,zF,zG,zH,zI,zJ, v_neS, n3]
    exact ⟨rfl, rfl, rfl, rfl, rfl, rfl, rfl, trivial⟩
 intro e' hS
 refine WCode.weak (e' := [(5, strsW ws), (6, .so M.H.length 1 (l.map intP)), (9, vi (atoiV wd).1), (14, strsW vs1), (15, vi vs1.length), (16, vi i), (41, vb !ok)]) ?_ (Sub.ok hS)
 cases ok with
 | false =>
  rw [hnr, if_neg (of_decide_eq_false hok.symm)] at hst
  ((repeat refine Ws ?_);refine Wt (by first|rfl|simp only [EV,zF,reduceIte]) ?_)
  ((repeat refine Ws ?_);refine W_regionE T_ok ?_; intro Kn hKn)
  ((simp (maxSteps := 1000000) only [VL,VM,↓VG,reduceIte,reduceCtorEq,zA,zB,zC,zD,zE,zF,zG,zH,zI,zJ]); rw [hKn];clear hKn Kn;simp only [QV,reduceIte,reduceCtorEq,Nat.reduceEqDiff])
  rw [show parseT 8 s = .tup [vs [], .p (.sl 0 []), vb false] by
   unfold parseT
   rw [hparse, numsR_noneT (by omega) hst]
   rfl]
  (repeat refine Ws ?_)
  refine W_ret ?_
  try simp only [thenQ, blockQ]
  refine own_ret3t rfl ?_ ?_ ?_ (by rfl) (by rfl) (by rfl)
  ·simp only [get_cons, frz, vtup, Nat.reduceEqDiff, if_true, if_false, reduceIte]
   rfl
  ·simp only [get_cons, frz, vtup, Nat.reduceEqDiff, if_true, if_false, reduceIte]
  ·simp only [get_cons, frz, vtup, Nat.reduceEqDiff, if_true, if_false, reduceIte]
 | true =>
  rw [hnr, if_pos (of_decide_eq_true hok.symm)] at hst
  have q1 : ((l.length + 1) * 8 ≤ 140737488355328) = True := eq_true (by omega)
  ((repeat refine Ws ?_);refine Wf (by first|rfl|simp only [EV,zF,reduceIte]) ?_)
  (((repeat refine Ws ?_);refine W_skip ?_); simp only [QV,reduceIte,reduceCtorEq,Nat.reduceEqDiff])
  ((repeat refine Ws ?_);refine W_regionE T_ok ?_; intro Kn hKn)
  ((simp (maxSteps := 1000000) only [VL,VM,↓VG,reduceIte,reduceCtorEq,zA,zB,zC,zD,zE,zF,zG,zH,zI,zJ, q1]); rw [hKn];clear hKn Kn;simp only [QV,reduceIte,reduceCtorEq,Nat.reduceEqDiff])
  ((repeat refine Ws ?_);refine W_regionE T_ok ?_; intro Kn hKn)
  ((simp (maxSteps := 1000000) only [VL,VM,↓VG,reduceIte,reduceCtorEq,zA,zB,zC,zD,zE,zF,zG,zH,zI,zJ, k1]); rw [hKn];clear hKn Kn;simp only [QV,reduceIte,reduceCtorEq,Nat.reduceEqDiff])
  refine LoopK.mk ⟨i + 1, l ++ [(atoiV wd).1]⟩ (by simp only; omega) ⟨by simp only; omega, hst⟩ ⟨rfl, ?_, rfl, rfl, rfl, trivial⟩ ?_
  ·simp [get_cons]
  ·simp
end Go.Proofs.YtominlgikchnmaaGreatDoor.Vm
