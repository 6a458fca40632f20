/- A part of the proofs about the doors; no condition. -/
import Derived.Test.YtekhddlngbppkaaGreatDoorB36
import Derived.Test.YtekhddlngbppkaaGreatDoorB38
import Derived.Test.YtekhddlngbppkaaGreatDoorB40
set_option linter.unusedVariables false
set_option linter.unusedSimpArgs false
open Int renaming reduceLE → zA, reduceLT → zB, reduceToNat → zC, reduceNeg → zD
open Nat renaming reduceLT → zE, reduceEqDiff → zF, reduceAdd → zG, reduceSub → zH, reduceMul → zI, reduceLeDiff → zJ
/- The reference's Read, on values. (Vm) -/
namespace Go.Proofs.YtekhddlngbppkaaGreatDoor.Vm
open Go Go.Proofs
theorem numsN_of_none {s w:By} {k:Nat} (h:parseZ 6 s = none):numsN s w k = none:=by
 unfold parseZ at h
 rw [Option.map_eq_none_iff] at h
 unfold numsN
 split
 ·exact h
 ·rfl
theorem numsN_of {s w w':By} {k:Nat} {l:List Int} (h:parseZ 6 s = some (w,l)):numsN s w' k = if w = w'∧l.length = k then some l else none:=by
 unfold parseZ at h
 obtain ⟨l',h1,h2⟩:=Option.map_eq_some_iff.1 h
 cases h2
 have hp:=cutL_pos 32 s
 have hl:=numsZ_len h1
 rw [List.length_drop] at hl
 unfold numsN
 by_cases hc:(cutL 32 s).headD [] = w'∧l.length = k
 ·rw [if_pos hc,if_pos ⟨hc.1,by omega⟩,h1]
 ·rw [if_neg hc,if_neg (fun e=>hc ⟨e.1,by omega⟩)]
theorem nu_yes {s w:By} {k:Nat} {l:List Int} (h:parseZ 6 s = some (w,l)) (hk:l.length = k):nuL s w k = intsV l∧nuB s w k = true:=numsN_some (by rw [numsN_of h,if_pos ⟨rfl,hk⟩])
theorem nu_no {s w w':By} {k:Nat} {l:List Int} (h:parseZ 6 s = some (w,l)) (hk:¬ (w = w'∧l.length = k)):nuB s w' k = false:=(numsN_none (by rw [numsN_of h,if_neg hk])).2
theorem nu_bad {s w':By} {k:Nat} (h:parseZ 6 s = none):nuB s w' k = false:=(numsN_none (numsN_of_none h)).2
set_option maxRecDepth 8000 in
set_option maxHeartbeats 8000000 in
theorem rread_v (s:By) (M:Mem) (hs:s.length≤9223372036854775807):VC Tryz.prog 13 [vs s] M (fun r M'=>M' = M∧r = rsReadV (rsRead s)):=by
 refine VC_own' T_ok (f := 13) (fn:=Tryz.f13) (by kernel_rfl) rfl Tryz.ntmps13 (by rfl) (by rfl) ?_
 (repeat refine Ws ?_);refine We ?_;intro Kn hKn
 ((simp(maxSteps:=1000000)only[VL,VM,↓VG,reduceIte,reduceCtorEq,zA,zB,zC,zD,zE,zF,zG,zH,zI,zJ]); rw [hKn];clear hKn Kn;simp only [QV,reduceIte,reduceCtorEq,zF])
 (repeat refine Ws ?_);refine We ?_;intro Kn hKn
 rcases Nat.lt_or_ge 2000 s.length with h15 | h15
 ·have k1:((2000:Int) < (s.length:Int)) = True:=eq_true (by omega)
  ((simp(maxSteps:=1000000)only[VL,VM,↓VG,reduceIte,reduceCtorEq,zA,zB,zC,zD,zE,zF,zG,zH,zI,zJ,tx_size,k1]); rw [hKn];clear hKn Kn;simp only [QV,reduceIte,reduceCtorEq,zF])
  (repeat refine Ws ?_);refine Wt ?_
  (repeat refine Ws ?_);refine We ?_;intro Kn hKn
  ((simp(maxSteps:=1000000)only[VL,VM,↓VG,reduceIte,reduceCtorEq,zA,zB,zC,zD,zE,zF,zG,zH,zI,zJ]); rw [hKn];clear hKn Kn;simp only [QV,reduceIte,reduceCtorEq,zF])
  rw [show rsRead s = (y0,0,10) by unfold rsRead; rw [if_pos h15]]
  refine W_nil3 ?_
  refine W_eqM (M':=⟨M.H++[.obj (houseC y0)],M.lg++[]⟩) (by simp) ?_
  (repeat refine Ws ?_)
  refine W_ret ?_
  try simp only [thenQ,blockQ]
  refine own_retR rfl (by simp) rfl rfl rfl rfl
 have k1:((2000:Int) < (s.length:Int)) = False:=eq_false (by omega)
 ((simp(maxSteps:=1000000)only[VL,VM,↓VG,reduceIte,reduceCtorEq,zA,zB,zC,zD,zE,zF,zG,zH,zI,zJ,tx_size,k1]); rw [hKn];clear hKn Kn;simp only [QV,reduceIte,reduceCtorEq,zF])
 (repeat refine Ws ?_);refine Wf ?_
 (((repeat refine Ws ?_);refine W_skip ?_); simp only [QV,reduceIte,reduceCtorEq,zF])
 have hlen:=cutL_len 10 s
 have hpos:=cutL_pos 10 s
 have hpart:=cutL_part 10 s
 (repeat refine Ws ?_);refine We ?_;intro Kn hKn
 simp(maxSteps:=1000000)only[VL,VM,↓VG,reduceIte,reduceCtorEq,zA,zB,zC,zD,zE,zF,zG,zH,zI,zJ]
 apply call_eq (f := 42) (fn:=Tryz.f42) (by kernel_rfl) (by rfl)
 ·exact rsplit_v 10 s _ (by omega)
 ((simp(maxSteps:=1000000)only[VL,VM,↓VG,reduceIte,reduceCtorEq,zA,zB,zC,zD,zE,zF,zG,zH,zI,zJ]); rw [hKn];clear hKn Kn;simp only [QV,reduceIte,reduceCtorEq,zF])
 have hread:rsRead s = match rsRun 0 (y0,false) ((cutL 10 s).take ((cutL 10 s).length - 1)) with
  | .inl i=>(y0,(i:Int) + 1,2)
  | .inr st=>rsEnd (cutL 10 s) st:=by
  unfold rsRead
  rw [if_neg (by omega)]
  rfl
 generalize cutL 10 s = rows at hlen hpos hpart hread ⊢
 (repeat refine Ws ?_);refine We ?_;intro Kn hKn
 ((simp(maxSteps:=1000000)only[VL,VM,↓VG,reduceIte,reduceCtorEq,zA,zB,zC,zD,zE,zF,zG,zH,zI,zJ]); rw [hKn];clear hKn Kn;simp only [QV,reduceIte,reduceCtorEq,zF])
 (repeat refine Ws ?_)
 obtain ⟨H1,hH1⟩:∃ H1,H1 = M.H++[VObj.obj z0]:=⟨_,rfl⟩
 have hn:M.H.length + 1 = H1.length:=by rw [hH1]; simp
 have hX:∀ e∈LG3 H1.length,M.H.length≤e.1:=fun e he=>by
  simp only [List.mem_cons,List.not_mem_nil,or_false] at he
  rcases he with rfl | rfl | rfl <;> (simp only; omega)
 have gz:∀ cs a b c L,(PMc H1 cs a b c L)[M.H.length]? = some (.obj z0):=fun cs a b c L=>by unfold PMc; rw [hH1]; simp
 have sz:∀ cs a b c L o,(PMc H1 cs a b c L).set M.H.length o = M.H++o :: .obj cs :: .clm a 1 :: .clm b 3 :: .clm c 6 :: L:=fun cs a b c L o=>by unfold PMc; rw [hH1]; simp
 rw [hn]
 refine W_eqM (M':=⟨H1++[.obj z0],M.lg⟩) (by rw [hH1]; simp) ?_
 refine W_ghost3 ?_
 (repeat refine Ws ?_);refine We ?_;intro Kn hKn
 ((simp(maxSteps:=1000000)only[VL,VM,↓VG,reduceIte,reduceCtorEq,zA,zB,zC,zD,zE,zF,zG,zH,zI,zJ]); rw [hKn];clear hKn Kn;simp only [QV,reduceIte,reduceCtorEq,zF])
 (repeat refine Ws ?_);refine We ?_;intro Kn hKn
 ((simp(maxSteps:=1000000)only[VL,VM,↓VG,reduceIte,reduceCtorEq,zA,zB,zC,zD,zE,zF,zG,zH,zI,zJ]); rw [hKn];clear hKn Kn;simp only [QV,reduceIte,reduceCtorEq,zF])
 ((repeat refine Ws ?_);refine W_block ?_; (repeat refine Ws ?_)); refine W_loopS (fun z:RsS=>[(2,.ptr M.H.length 0),(5,strsW rows),(6,.ptr H1.length 0),(7,vb z.b),(8,vi z.i)]) (fun z=>⟨PMx H1 z.y z.L,M.lg++LG3 H1.length⟩) (fun z=>rows.length - z.i) (fun z=>z.i≤rows.length - 1∧rsRun 0 (y0,false) (rows.take z.i) = .inr (z.y,z.b)∧RsOk z.i z.y) ⟨0,y0,false,[]⟩ ⟨Nat.zero_le _,rfl,⟨Nat.le_refl _,Nat.le_refl _,Nat.le_refl _⟩⟩ ⟨rfl,rfl,rfl,rfl,rfl,trivial⟩ rfl ?_
 rintro ⟨i,y,b,L⟩ ⟨hi,hrun,hok⟩
 simp only at hi hrun hok
 have k2 : -9223372036854775808≤(rows.length:Int) - 1∧(rows.length:Int) - 1 < 9223372036854775808:=by omega
 have k3 : -9223372036854775808≤(i:Int) + 1∧(i:Int) + 1 < 9223372036854775808:=by omega
 rcases Nat.lt_or_ge i (rows.length - 1) with hlt | hge
 rotate_left
 ·obtain rfl:i = rows.length - 1:=by omega
  have hres0:rsRead s = rsEnd rows (y,b):=by rw [hread,hrun]
  have k4:(((rows.length - 1:Nat):Int) < (rows.length:Int) - 1) = False:=eq_false (by omega)
  have hlt2:rows.length - 1 < rows.length:=by omega
  have hx:=strs_at (List.getElem?_eq_getElem hlt2)
  have hidx:((rows.length:Int) - 1).toNat = rows.length - 1:=by omega
  have hge0:(0≤(rows.length:Int) - 1) = True:=eq_true (by omega)
  have hlast:rows.getD (rows.length - 1) [] = rows[rows.length - 1]:=by rw [List.getD_eq_getElem?_getD,List.getElem?_eq_getElem hlt2]; rfl
  generalize rows[rows.length - 1] = last at hx hlast
  (repeat refine Ws ?_);refine We ?_;intro Kn hKn
  ((simp(maxSteps:=1000000)only[VL,VM,↓VG,reduceIte,reduceCtorEq,zA,zB,zC,zD,zE,zF,zG,zH,zI,zJ,strs_len,k2,k4]); rw [hKn];clear hKn Kn;simp only [QV,reduceIte,reduceCtorEq,zF])
  (repeat refine Ws ?_);refine Wf ?_
  (((repeat refine Ws ?_);refine W_exit ?_); simp only [QV,reduceIte,reduceCtorEq,zF])
  (repeat refine Ws ?_);refine We ?_;intro Kn hKn
  cases b with
  | false =>
   have hres:rsRead s = (y0,(rows.length:Int),2):=by
    rw [hres0]
    unfold rsEnd
    rw [if_pos (.inl rfl)]
   ((simp(maxSteps:=1000000)only[VL,VM,↓VG,reduceIte,reduceCtorEq,zA,zB,zC,zD,zE,zF,zG,zH,zI,zJ]); rw [hKn];clear hKn Kn;simp only [QV,reduceIte,reduceCtorEq,zF])
   (repeat refine Ws ?_);refine Wt ?_
   (repeat refine Ws ?_);refine We ?_;intro Kn hKn
   ((simp(maxSteps:=1000000)only[VL,VM,↓VG,reduceIte,reduceCtorEq,zA,zB,zC,zD,zE,zF,zG,zH,zI,zJ,strs_len,gz,sz]); rw [hKn];clear hKn Kn;simp only [QV,reduceIte,reduceCtorEq,zF])
   rw [hres]
   refine W_nil3 ?_
   (repeat refine Ws ?_)
   refine W_ret ?_
   try simp only [thenQ,blockQ]
   refine own_retR rfl hX rfl rfl rfl rfl
  | true =>
   by_cases hl:last = []
   rotate_left
   ·have k5:(last = []) = False:=eq_false hl
    have hres:rsRead s = (y0,(rows.length:Int),2):=by
     rw [hres0]
     unfold rsEnd
     rw [if_pos (.inr (by rw [hlast]; exact hl))]
    ((simp(maxSteps:=1000000)only[VL,VM,↓VG,reduceIte,reduceCtorEq,zA,zB,zC,zD,zE,zF,zG,zH,zI,zJ,strs_len,k2,hidx,hge0,hx,litNil,v_neS,k5]); rw [hKn];clear hKn Kn;simp only [QV,reduceIte,reduceCtorEq,zF])
    (repeat refine Ws ?_);refine Wt ?_
    (repeat refine Ws ?_);refine We ?_;intro Kn hKn
    ((simp(maxSteps:=1000000)only[VL,VM,↓VG,reduceIte,reduceCtorEq,zA,zB,zC,zD,zE,zF,zG,zH,zI,zJ,strs_len,gz,sz]); rw [hKn];clear hKn Kn;simp only [QV,reduceIte,reduceCtorEq,zF])
    rw [hres]
    refine W_nil3 ?_
    (repeat refine Ws ?_)
    refine W_ret ?_
    try simp only [thenQ,blockQ]
    refine own_retR rfl hX rfl rfl rfl rfl
   have k5:(last = []) = True:=eq_true hl
   ((simp(maxSteps:=1000000)only[VL,VM,↓VG,reduceIte,reduceCtorEq,zA,zB,zC,zD,zE,zF,zG,zH,zI,zJ,strs_len,k2,hidx,hge0,hx,litNil,v_neS,k5]); rw [hKn];clear hKn Kn;simp only [QV,reduceIte,reduceCtorEq,zF])
   (repeat refine Ws ?_);refine Wf ?_
   (((repeat refine Ws ?_);refine W_skip ?_); simp only [QV,reduceIte,reduceCtorEq,zF])
   have o1:=hok.h
   have o2:=hok.d
   have o3:=hok.c
   (repeat refine Ws ?_);refine We ?_;intro Kn hKn
   simp(maxSteps:=1000000)only[VL,VM,↓VG,reduceIte,reduceCtorEq,zA,zB,zC,zD,zE,zF,zG,zH,zI,zJ,PM_0]
   apply call_eq (f := 36) (fn:=Tryz.f36) (by kernel_rfl) (by rfl)
   ·exact check_r y _ (by omega) (by omega) (by omega)
   ((simp(maxSteps:=1000000)only[VL,VM,↓VG,reduceIte,reduceCtorEq,zA,zB,zC,zD,zE,zF,zG,zH,zI,zJ]); rw [hKn];clear hKn Kn;simp only [QV,reduceIte,reduceCtorEq,zF])
   (repeat refine Ws ?_);refine We ?_;intro Kn hKn
   by_cases h1:houseErr y = 0
   ·have k6:(houseErr y = 0) = True:=eq_true h1
    have hres:rsRead s = (y,0,0):=by
     rw [hres0]
     unfold rsEnd
     rw [if_neg,if_pos h1]
     rintro (h | h)
     ·cases h
     ·rw [hlast] at h
      exact h hl
    ((simp(maxSteps:=1000000)only[VL,VM,↓VG,reduceIte,reduceCtorEq,zA,zB,zC,zD,zE,zF,zG,zH,zI,zJ,k6]); rw [hKn];clear hKn Kn;simp only [QV,reduceIte,reduceCtorEq,zF])
    (repeat refine Ws ?_);refine Wf ?_
    (((repeat refine Ws ?_);refine W_skip ?_); simp only [QV,reduceIte,reduceCtorEq,zF])
    (repeat refine Ws ?_);refine We ?_;intro Kn hKn
    ((simp(maxSteps:=1000000)only[VL,VM,↓VG,reduceIte,reduceCtorEq,zA,zB,zC,zD,zE,zF,zG,zH,zI,zJ,PM_0,gz,sz]); rw [hKn];clear hKn Kn;simp only [QV,reduceIte,reduceCtorEq,zF])
    rw [hres]
    (repeat refine Ws ?_)
    refine W_ret ?_
    try simp only [thenQ,blockQ]
    refine own_retR rfl hX rfl rfl rfl rfl
   ·have k6:(houseErr y = 0) = False:=eq_false h1
    have hres:rsRead s = (y0,0,houseErr y):=by
     rw [hres0]
     unfold rsEnd
     rw [if_neg,if_neg h1]
     rintro (h | h)
     ·cases h
     ·rw [hlast] at h
      exact h hl
    ((simp(maxSteps:=1000000)only[VL,VM,↓VG,reduceIte,reduceCtorEq,zA,zB,zC,zD,zE,zF,zG,zH,zI,zJ,k6]); rw [hKn];clear hKn Kn;simp only [QV,reduceIte,reduceCtorEq,zF])
    (repeat refine Ws ?_);refine Wt ?_
    (repeat refine Ws ?_);refine We ?_;intro Kn hKn
    ((simp(maxSteps:=1000000)only[VL,VM,↓VG,reduceIte,reduceCtorEq,zA,zB,zC,zD,zE,zF,zG,zH,zI,zJ,gz,sz]); rw [hKn];clear hKn Kn;simp only [QV,reduceIte,reduceCtorEq,zF])
    rw [hres]
    refine W_nil3 ?_
    (repeat refine Ws ?_)
    refine W_ret ?_
    try simp only [thenQ,blockQ]
    refine own_retR rfl hX rfl rfl rfl rfl
 have hlt2:i < rows.length:=by omega
 have k4:((i:Int) < (rows.length:Int) - 1) = True:=eq_true (by omega)
 have hx:=strs_at (List.getElem?_eq_getElem hlt2)
 have hp:=hpart rows[i] (List.getElem_mem hlt2)
 have hst:=rsRun_step hlt2 hrun
 generalize rows[i] = row at hx hp hst
 (repeat refine Ws ?_);refine We ?_;intro Kn hKn
 ((simp(maxSteps:=1000000)only[VL,VM,↓VG,reduceIte,reduceCtorEq,zA,zB,zC,zD,zE,zF,zG,zH,zI,zJ,strs_len,k2,k4]); rw [hKn];clear hKn Kn;simp only [QV,reduceIte,reduceCtorEq,zF])
 (repeat refine Ws ?_);refine Wt ?_
 (((repeat refine Ws ?_);refine W_skip ?_); simp only [QV,reduceIte,reduceCtorEq,zF])
 (repeat refine Ws ?_);refine W_block ?_
 have hfail:rsStep i (y,b) row = none→rsRead s = (y0,(i:Int) + 1,2):=fun h=>by
  rw [h] at hst
  rw [hread,rsRun_bad (n:=rows.length - 1) (by omega) hst]
 (repeat refine Ws ?_);refine We ?_;intro Kn hKn
 simp(maxSteps:=1000000)only[VL,VM,↓VG,reduceIte,reduceCtorEq,zA,zB,zC,zD,zE,zF,zG,zH,zI,zJ,hx,litHouse]
 apply call_eq (f := 43) (fn:=Tryz.f43) (by kernel_rfl) (by rfl)
 ·exact rnumbers_v row wHouse 3 _ (by omega) (by omega)
 ((simp(maxSteps:=1000000)only[VL,VM,↓VG,reduceIte,reduceCtorEq,zA,zB,zC,zD,zE,zF,zG,zH,zI,zJ]); rw [hKn];clear hKn Kn;simp only [QV,reduceIte,reduceCtorEq,zF])
 (repeat refine Ws ?_);refine We ?_;intro Kn hKn
 simp(maxSteps:=1000000)only[VL,VM,↓VG,reduceIte,reduceCtorEq,zA,zB,zC,zD,zE,zF,zG,zH,zI,zJ,hx,litHall]
 apply call_eq (f := 43) (fn:=Tryz.f43) (by kernel_rfl) (by rfl)
 ·exact rnumbers_v row wHall 1 _ (by omega) (by omega)
 ((simp(maxSteps:=1000000)only[VL,VM,↓VG,reduceIte,reduceCtorEq,zA,zB,zC,zD,zE,zF,zG,zH,zI,zJ]); rw [hKn];clear hKn Kn;simp only [QV,reduceIte,reduceCtorEq,zF])
 (repeat refine Ws ?_);refine We ?_;intro Kn hKn
 simp(maxSteps:=1000000)only[VL,VM,↓VG,reduceIte,reduceCtorEq,zA,zB,zC,zD,zE,zF,zG,zH,zI,zJ,hx,litDoor]
 apply call_eq (f := 43) (fn:=Tryz.f43) (by kernel_rfl) (by rfl)
 ·exact rnumbers_v row wDoor 3 _ (by omega) (by omega)
 ((simp(maxSteps:=1000000)only[VL,VM,↓VG,reduceIte,reduceCtorEq,zA,zB,zC,zD,zE,zF,zG,zH,zI,zJ]); rw [hKn];clear hKn Kn;simp only [QV,reduceIte,reduceCtorEq,zF])
 (repeat refine Ws ?_);refine We ?_;intro Kn hKn
 simp(maxSteps:=1000000)only[VL,VM,↓VG,reduceIte,reduceCtorEq,zA,zB,zC,zD,zE,zF,zG,zH,zI,zJ,hx,litCount]
 apply call_eq (f := 43) (fn:=Tryz.f43) (by kernel_rfl) (by rfl)
 ·exact rnumbers_v row wCount 6 _ (by omega) (by omega)
 ((simp(maxSteps:=1000000)only[VL,VM,↓VG,reduceIte,reduceCtorEq,zA,zB,zC,zD,zE,zF,zG,zH,zI,zJ]); rw [hKn];clear hKn Kn;simp only [QV,reduceIte,reduceCtorEq,zF])
 (repeat refine Ws ?_);refine We ?_;intro Kn hKn
 simp(maxSteps:=1000000)only[VL,VM,↓VG,reduceIte,reduceCtorEq,zA,zB,zC,zD,zE,zF,zG,zH,zI,zJ,hx,litEnd]
 apply call_eq (f := 43) (fn:=Tryz.f43) (by kernel_rfl) (by rfl)
 ·exact rnumbers_v row wEnd 1 _ (by omega) (by omega)
 ((simp(maxSteps:=1000000)only[VL,VM,↓VG,reduceIte,reduceCtorEq,zA,zB,zC,zD,zE,zF,zG,zH,zI,zJ]); rw [hKn];clear hKn Kn;simp only [QV,reduceIte,reduceCtorEq,zF])
 (repeat refine Ws ?_);refine W_block ?_
 cases hb:b with
 | true =>
  (repeat refine Ws ?_);refine We ?_;intro Kn hKn
  ((simp(maxSteps:=1000000)only[VL,VM,↓VG,reduceIte,reduceCtorEq,zA,zB,zC,zD,zE,zF,zG,zH,zI,zJ,hb]); rw [hKn];clear hKn Kn;simp only [QV,reduceIte,reduceCtorEq,zF])
  (repeat refine Ws ?_);refine Wt ?_
  (repeat refine Ws ?_);refine We ?_;intro Kn hKn
  ((simp(maxSteps:=1000000)only[VL,VM,↓VG,reduceIte,reduceCtorEq,zA,zB,zC,zD,zE,zF,zG,zH,zI,zJ,k3,gz,sz]); rw [hKn];clear hKn Kn;simp only [QV,reduceIte,reduceCtorEq,zF])
  rw [hfail (by rw [hb]; unfold rsStep; split <;> rfl)]
  refine W_nil3 ?_
  (repeat refine Ws ?_)
  refine W_ret ?_
  try simp only [thenQ,blockQ]
  refine own_retR rfl hX rfl rfl rfl rfl
 | false =>
 have s0:∀ w l,parseZ 6 row = some (w,l)→rsStep i (y,b) row = rsPut i y w l:=fun w l h=>by
  rw [hb]; unfold rsStep; rw [h]; rfl
 have r1 : -9223372036854775808≤(y.doors.length:Int) + (y.counts.length:Int)∧(y.doors.length:Int) + (y.counts.length:Int) < 9223372036854775808:=by have:=hok.d; have:=hok.c; omega
 have a1:addLg H1.length [H1.length + 1] (M.lg++LG3 H1.length) = M.lg++LG3 H1.length:=addLg_in (by simp)
 have a2:addLg H1.length [H1.length + 2] (M.lg++LG3 H1.length) = M.lg++LG3 H1.length:=addLg_in (by simp)
 have a3:addLg H1.length [H1.length + 3] (M.lg++LG3 H1.length) = M.lg++LG3 H1.length:=addLg_in (by simp)
 have o1:=hok.h
 have o2:=hok.d
 have o3:=hok.c
 cases hpr:parseZ 6 row with
 | none =>
  have n0:nuB row wHouse 3 = false:=nu_bad hpr
  have n1:nuB row wHall 1 = false:=nu_bad hpr
  have n2:nuB row wDoor 3 = false:=nu_bad hpr
  have n3:nuB row wCount 6 = false:=nu_bad hpr
  have n4:nuB row wEnd 1 = false:=nu_bad hpr
  have sn:rsStep i (y,b) row = none:=by rw [hb]; unfold rsStep; rw [hpr]
  by_cases hi0:i = 0
  ·have ki:((i:Int) = 0) = True:=eq_true (by omega)
   (repeat refine Ws ?_);refine We ?_;intro Kn hKn
   ((simp(maxSteps:=1000000)only[VL,VM,↓VG,reduceIte,reduceCtorEq,zA,zB,zC,zD,zE,zF,zG,zH,zI,zJ,hb,n0,ki,v_neFT]); rw [hKn];clear hKn Kn;simp only [QV,reduceIte,reduceCtorEq,zF])
   (repeat refine Ws ?_);refine Wt ?_
   (repeat refine Ws ?_);refine We ?_;intro Kn hKn
   ((simp(maxSteps:=1000000)only[VL,VM,↓VG,reduceIte,reduceCtorEq,zA,zB,zC,zD,zE,zF,zG,zH,zI,zJ,k3,gz,sz]); rw [hKn];clear hKn Kn;simp only [QV,reduceIte,reduceCtorEq,zF])
   rw [hfail (sn)]
   refine W_nil3 ?_
   (repeat refine Ws ?_)
   refine W_ret ?_
   try simp only [thenQ,blockQ]
   refine own_retR rfl hX rfl rfl rfl rfl
  ·have ki:((i:Int) = 0) = False:=eq_false (by omega)
   (repeat refine Ws ?_);refine We ?_;intro Kn hKn
   ((simp(maxSteps:=1000000)only[VL,VM,↓VG,reduceIte,reduceCtorEq,zA,zB,zC,zD,zE,zF,zG,zH,zI,zJ,hb,n0,ki,v_neFF]); rw [hKn];clear hKn Kn;simp only [QV,reduceIte,reduceCtorEq,zF])
   (repeat refine Ws ?_);refine Wf ?_
   (repeat refine Ws ?_);refine We ?_;intro Kn hKn
   ((simp(maxSteps:=1000000)only[VL,VM,↓VG,reduceIte,reduceCtorEq,zA,zB,zC,zD,zE,zF,zG,zH,zI,zJ,n0]); rw [hKn];clear hKn Kn;simp only [QV,reduceIte,reduceCtorEq,zF])
   (repeat refine Ws ?_);refine Wf ?_
   (repeat refine Ws ?_);refine We ?_;intro Kn hKn
   ((simp(maxSteps:=1000000)only[VL,VM,↓VG,reduceIte,reduceCtorEq,zA,zB,zC,zD,zE,zF,zG,zH,zI,zJ,n1]); rw [hKn];clear hKn Kn;simp only [QV,reduceIte,reduceCtorEq,zF])
   (repeat refine Ws ?_);refine Wf ?_
   (repeat refine Ws ?_);refine We ?_;intro Kn hKn
   ((simp(maxSteps:=1000000)only[VL,VM,↓VG,reduceIte,reduceCtorEq,zA,zB,zC,zD,zE,zF,zG,zH,zI,zJ,n2]); rw [hKn];clear hKn Kn;simp only [QV,reduceIte,reduceCtorEq,zF])
   (repeat refine Ws ?_);refine Wf ?_
   (repeat refine Ws ?_);refine We ?_;intro Kn hKn
   ((simp(maxSteps:=1000000)only[VL,VM,↓VG,reduceIte,reduceCtorEq,zA,zB,zC,zD,zE,zF,zG,zH,zI,zJ,n3]); rw [hKn];clear hKn Kn;simp only [QV,reduceIte,reduceCtorEq,zF])
   (repeat refine Ws ?_);refine Wf ?_
   (repeat refine Ws ?_)
   refine W_drawE T_ok [] (by kernel_rfl) (by kernel_rfl) ?_
   intro Kn hKn
   generalize hi:mkPlan _ = infs
   cbv at hi
   subst hi
   ((simp(maxSteps:=1000000)only[VL,VM,↓VG,reduceIte,reduceCtorEq,zA,zB,zC,zD,zE,zF,zG,zH,zI,zJ,n4,PM_0]); rw [hKn];clear hKn Kn;simp only [QV,reduceIte,reduceCtorEq,zF])
   (repeat refine Ws ?_);refine Wf ?_
   (repeat refine Ws ?_);refine We ?_;intro Kn hKn
   ((simp(maxSteps:=1000000)only[VL,VM,↓VG,reduceIte,reduceCtorEq,zA,zB,zC,zD,zE,zF,zG,zH,zI,zJ,k3,gz,sz]); rw [hKn];clear hKn Kn;simp only [QV,reduceIte,reduceCtorEq,zF])
   rw [hfail (sn)]
   refine W_nil3 ?_
   (repeat refine Ws ?_)
   refine W_ret ?_
   try simp only [thenQ,blockQ]
   refine own_retR rfl hX rfl rfl rfl rfl
 | some wl =>
 obtain ⟨w,l⟩:=wl
 have hs0:=s0 w l hpr
 by_cases hh:w = wHouse∧l.length = 3
 ·obtain ⟨rfl,hl3⟩:=hh
  obtain ⟨g0,n0⟩:=nu_yes hpr hl3
  by_cases hi0:i = 0
  rotate_left
  ·have ki:((i:Int) = 0) = False:=eq_false (by omega)
   (repeat refine Ws ?_);refine We ?_;intro Kn hKn
   ((simp(maxSteps:=1000000)only[VL,VM,↓VG,reduceIte,reduceCtorEq,zA,zB,zC,zD,zE,zF,zG,zH,zI,zJ,hb,n0,ki,v_neTF]); rw [hKn];clear hKn Kn;simp only [QV,reduceIte,reduceCtorEq,zF])
   (repeat refine Ws ?_);refine Wt ?_
   (repeat refine Ws ?_);refine We ?_;intro Kn hKn
   ((simp(maxSteps:=1000000)only[VL,VM,↓VG,reduceIte,reduceCtorEq,zA,zB,zC,zD,zE,zF,zG,zH,zI,zJ,k3,gz,sz]); rw [hKn];clear hKn Kn;simp only [QV,reduceIte,reduceCtorEq,zF])
   rw [hfail (hs0.trans (by unfold rsPut; rw [if_neg hi0,if_neg (fun e=>absurd e.1 (by decide)),if_neg (fun e=>absurd e.1 (by decide)),if_neg (fun e=>absurd e.1 (by decide)),if_neg (fun e=>absurd e.1 (by decide))]))]
   refine W_nil3 ?_
   (repeat refine Ws ?_)
   refine W_ret ?_
   try simp only [thenQ,blockQ]
   refine own_retR rfl hX rfl rfl rfl rfl
  have ki:((i:Int) = 0) = True:=eq_true (by omega)
  (repeat refine Ws ?_);refine We ?_;intro Kn hKn
  ((simp(maxSteps:=1000000)only[VL,VM,↓VG,reduceIte,reduceCtorEq,zA,zB,zC,zD,zE,zF,zG,zH,zI,zJ,hb,n0,ki,v_neTT]); rw [hKn];clear hKn Kn;simp only [QV,reduceIte,reduceCtorEq,zF])
  (repeat refine Ws ?_);refine Wf ?_
  (repeat refine Ws ?_);refine We ?_;intro Kn hKn
  ((simp(maxSteps:=1000000)only[VL,VM,↓VG,reduceIte,reduceCtorEq,zA,zB,zC,zD,zE,zF,zG,zH,zI,zJ,n0]); rw [hKn];clear hKn Kn;simp only [QV,reduceIte,reduceCtorEq,zF])
  (repeat refine Ws ?_);refine Wt ?_
  obtain ⟨a,c,g,rfl⟩:=threeL hl3
  have hs1:rsStep i (y,b) row = some (hoOf y [a,c,g],false):=hs0.trans (by unfold rsPut; rw [if_pos hi0,if_pos ⟨rfl,rfl⟩])
  rw [hs1] at hst
  (repeat refine Ws ?_)
  refine W_drawE T_ok [] (by kernel_rfl) (by kernel_rfl) ?_
  intro Kn hKn
  generalize hi:mkPlan _ = infs
  cbv at hi
  subst hi
  simp(maxSteps:=1000000)only[VL,VM,↓VG,reduceIte,reduceCtorEq,zA,zB,zC,zD,zE,zF,zG,zH,zI,zJ,g0,PM_at,PM_0,PM_s0]
  rw [hKn]
  clear hKn Kn
  simp only [QV,reduceIte,reduceCtorEq,zF]
  (repeat refine Ws ?_);refine We ?_;intro Kn hKn
  ((simp(maxSteps:=1000000)only[VL,VM,↓VG,reduceIte,reduceCtorEq,zA,zB,zC,zD,zE,zF,zG,zH,zI,zJ,k3]); rw [hKn];clear hKn Kn;simp only [QV,reduceIte,reduceCtorEq,zF])
  refine LoopK.mk ⟨i + 1,hoOf y [a,c,g],false,L⟩ (by simp only; omega) ⟨by simp only; omega,hst,rsStep_ok hs1 hok⟩ ⟨rfl,rfl,rfl,rfl,rfl,trivial⟩ rfl
 have n0:=nu_no (k:=3) hpr hh
 by_cases hi0:i = 0
 ·have ki:((i:Int) = 0) = True:=eq_true (by omega)
  (repeat refine Ws ?_);refine We ?_;intro Kn hKn
  ((simp(maxSteps:=1000000)only[VL,VM,↓VG,reduceIte,reduceCtorEq,zA,zB,zC,zD,zE,zF,zG,zH,zI,zJ,hb,n0,ki,v_neFT]); rw [hKn];clear hKn Kn;simp only [QV,reduceIte,reduceCtorEq,zF])
  (repeat refine Ws ?_);refine Wt ?_
  (repeat refine Ws ?_);refine We ?_;intro Kn hKn
  ((simp(maxSteps:=1000000)only[VL,VM,↓VG,reduceIte,reduceCtorEq,zA,zB,zC,zD,zE,zF,zG,zH,zI,zJ,k3,gz,sz]); rw [hKn];clear hKn Kn;simp only [QV,reduceIte,reduceCtorEq,zF])
  rw [hfail (hs0.trans (by unfold rsPut; rw [if_pos hi0,if_neg hh]))]
  refine W_nil3 ?_
  (repeat refine Ws ?_)
  refine W_ret ?_
  try simp only [thenQ,blockQ]
  refine own_retR rfl hX rfl rfl rfl rfl
 have ki:((i:Int) = 0) = False:=eq_false (by omega)
 (repeat refine Ws ?_);refine We ?_;intro Kn hKn
 ((simp(maxSteps:=1000000)only[VL,VM,↓VG,reduceIte,reduceCtorEq,zA,zB,zC,zD,zE,zF,zG,zH,zI,zJ,hb,n0,ki,v_neFF]); rw [hKn];clear hKn Kn;simp only [QV,reduceIte,reduceCtorEq,zF])
 (repeat refine Ws ?_);refine Wf ?_
 (repeat refine Ws ?_);refine We ?_;intro Kn hKn
 ((simp(maxSteps:=1000000)only[VL,VM,↓VG,reduceIte,reduceCtorEq,zA,zB,zC,zD,zE,zF,zG,zH,zI,zJ,n0]); rw [hKn];clear hKn Kn;simp only [QV,reduceIte,reduceCtorEq,zF])
 (repeat refine Ws ?_);refine Wf ?_
 have bad:¬ (w = wHall∧l.length = 1∧y.doors.length + y.counts.length = 0)→¬ (w = wDoor∧l.length = 3∧y.counts.length = 0)→¬ (w = wCount∧l.length = 6)→¬ (w = wEnd∧l.length = 1∧l.getD 0 0 = (y.counts.length:Int))→rsPut i y w l = none:=fun h1 h2 h3 h4=>by
  unfold rsPut
  rw [if_neg hi0,if_neg h1,if_neg h2,if_neg h3]
  split
  ·rename_i he
   exact if_neg (fun e=>h4 ⟨he.1,he.2,e⟩)
  ·rfl
 by_cases h1:w = wHall∧l.length = 1
 ·obtain ⟨rfl,hl⟩:=h1
  obtain ⟨g1,n1⟩:=nu_yes hpr hl
  have n2:=nu_no (w':=wDoor) (k:=3) hpr (fun e=>absurd e.1 (by decide))
  have n3:=nu_no (w':=wCount) (k:=6) hpr (fun e=>absurd e.1 (by decide))
  have n4:=nu_no (w':=wEnd) (k:=1) hpr (fun e=>absurd e.1 (by decide))
  by_cases hm:y.doors.length + y.counts.length = 0
  rotate_left
  ·have km:((y.doors.length:Int) + (y.counts.length:Int) = 0) = False:=eq_false (by omega)
   (repeat refine Ws ?_);refine We ?_;intro Kn hKn
   ((simp(maxSteps:=1000000)only[VL,VM,↓VG,reduceIte,reduceCtorEq,zA,zB,zC,zD,zE,zF,zG,zH,zI,zJ,n1,PM_0,r1,km]); rw [hKn];clear hKn Kn;simp only [QV,reduceIte,reduceCtorEq,zF])
   (repeat refine Ws ?_);refine Wf ?_
   (repeat refine Ws ?_);refine We ?_;intro Kn hKn
   ((simp(maxSteps:=1000000)only[VL,VM,↓VG,reduceIte,reduceCtorEq,zA,zB,zC,zD,zE,zF,zG,zH,zI,zJ,n2]); rw [hKn];clear hKn Kn;simp only [QV,reduceIte,reduceCtorEq,zF])
   (repeat refine Ws ?_);refine Wf ?_
   (repeat refine Ws ?_);refine We ?_;intro Kn hKn
   ((simp(maxSteps:=1000000)only[VL,VM,↓VG,reduceIte,reduceCtorEq,zA,zB,zC,zD,zE,zF,zG,zH,zI,zJ,n3]); rw [hKn];clear hKn Kn;simp only [QV,reduceIte,reduceCtorEq,zF])
   (repeat refine Ws ?_);refine Wf ?_
   (repeat refine Ws ?_)
   refine W_drawE T_ok [] (by kernel_rfl) (by kernel_rfl) ?_
   intro Kn hKn
   generalize hi:mkPlan _ = infs
   cbv at hi
   subst hi
   ((simp(maxSteps:=1000000)only[VL,VM,↓VG,reduceIte,reduceCtorEq,zA,zB,zC,zD,zE,zF,zG,zH,zI,zJ,n4,PM_0]); rw [hKn];clear hKn Kn;simp only [QV,reduceIte,reduceCtorEq,zF])
   (repeat refine Ws ?_);refine Wf ?_
   (repeat refine Ws ?_);refine We ?_;intro Kn hKn
   ((simp(maxSteps:=1000000)only[VL,VM,↓VG,reduceIte,reduceCtorEq,zA,zB,zC,zD,zE,zF,zG,zH,zI,zJ,k3,gz,sz]); rw [hKn];clear hKn Kn;simp only [QV,reduceIte,reduceCtorEq,zF])
   rw [hfail (hs0.trans (bad (fun e=>hm e.2.2) (fun e=>absurd e.1 (by decide)) (fun e=>absurd e.1 (by decide)) (fun e=>absurd e.1 (by decide))))]
   refine W_nil3 ?_
   (repeat refine Ws ?_)
   refine W_ret ?_
   try simp only [thenQ,blockQ]
   refine own_retR rfl hX rfl rfl rfl rfl
  have km:((y.doors.length:Int) + (y.counts.length:Int) = 0) = True:=eq_true (by omega)
  (repeat refine Ws ?_);refine We ?_;intro Kn hKn
  ((simp(maxSteps:=1000000)only[VL,VM,↓VG,reduceIte,reduceCtorEq,zA,zB,zC,zD,zE,zF,zG,zH,zI,zJ,n1,PM_0,r1,km]); rw [hKn];clear hKn Kn;simp only [QV,reduceIte,reduceCtorEq,zF])
  (repeat refine Ws ?_);refine Wt ?_
  obtain ⟨a,rfl⟩:=oneL hl
  have q1:((y.holds.length + 1) * 8≤140737488355328) = True:=eq_true (by omega)
  have hs1:rsStep i (y,b) row = some ({ y with holds:=y.holds++[a] },false):=hs0.trans (by unfold rsPut; rw [if_neg hi0,if_pos ⟨rfl,rfl,hm⟩]; rfl)
  rw [hs1] at hst
  (repeat refine Ws ?_)
  refine W_drawE T_ok [] (by kernel_rfl) (by kernel_rfl) ?_
  intro Kn hKn
  generalize hi:mkPlan _ = infs
  cbv at hi
  subst hi
  simp(maxSteps:=1000000)only[VL,VM,↓VG,reduceIte,reduceCtorEq,zA,zB,zC,zD,zE,zF,zG,zH,zI,zJ,g1,PM_at,PM_0,PM_1,PM_s0,PM_s1,a1,q1]
  rw [hKn]
  clear hKn Kn
  simp only [QV,reduceIte,reduceCtorEq,zF]
  (repeat refine Ws ?_);refine We ?_;intro Kn hKn
  ((simp(maxSteps:=1000000)only[VL,VM,↓VG,reduceIte,reduceCtorEq,zA,zB,zC,zD,zE,zF,zG,zH,zI,zJ,k3]); rw [hKn];clear hKn Kn;simp only [QV,reduceIte,reduceCtorEq,zF])
  refine LoopK.mk ⟨i + 1,{ y with holds:=y.holds++[a] },false,L⟩ (by simp only; omega) ⟨by simp only; omega,hst,rsStep_ok hs1 hok⟩ ⟨rfl,rfl,rfl,rfl,rfl,trivial⟩ (by simp [PMx,yD])
 have n1:=nu_no hpr h1
 (repeat refine Ws ?_);refine We ?_;intro Kn hKn
 ((simp(maxSteps:=1000000)only[VL,VM,↓VG,reduceIte,reduceCtorEq,zA,zB,zC,zD,zE,zF,zG,zH,zI,zJ,n1]); rw [hKn];clear hKn Kn;simp only [QV,reduceIte,reduceCtorEq,zF])
 (repeat refine Ws ?_);refine Wf ?_
 by_cases h2:w = wDoor∧l.length = 3
 ·obtain ⟨rfl,hl⟩:=h2
  obtain ⟨g2,n2⟩:=nu_yes hpr hl
  have n3:=nu_no (w':=wCount) (k:=6) hpr (fun e=>absurd e.1 (by decide))
  have n4:=nu_no (w':=wEnd) (k:=1) hpr (fun e=>absurd e.1 (by decide))
  by_cases hm:y.counts.length = 0
  rotate_left
  ·have km:((y.counts.length:Int) = 0) = False:=eq_false (by omega)
   (repeat refine Ws ?_);refine We ?_;intro Kn hKn
   ((simp(maxSteps:=1000000)only[VL,VM,↓VG,reduceIte,reduceCtorEq,zA,zB,zC,zD,zE,zF,zG,zH,zI,zJ,n2,PM_0,km]); rw [hKn];clear hKn Kn;simp only [QV,reduceIte,reduceCtorEq,zF])
   (repeat refine Ws ?_);refine Wf ?_
   (repeat refine Ws ?_);refine We ?_;intro Kn hKn
   ((simp(maxSteps:=1000000)only[VL,VM,↓VG,reduceIte,reduceCtorEq,zA,zB,zC,zD,zE,zF,zG,zH,zI,zJ,n3]); rw [hKn];clear hKn Kn;simp only [QV,reduceIte,reduceCtorEq,zF])
   (repeat refine Ws ?_);refine Wf ?_
   (repeat refine Ws ?_)
   refine W_drawE T_ok [] (by kernel_rfl) (by kernel_rfl) ?_
   intro Kn hKn
   generalize hi:mkPlan _ = infs
   cbv at hi
   subst hi
   ((simp(maxSteps:=1000000)only[VL,VM,↓VG,reduceIte,reduceCtorEq,zA,zB,zC,zD,zE,zF,zG,zH,zI,zJ,n4,PM_0]); rw [hKn];clear hKn Kn;simp only [QV,reduceIte,reduceCtorEq,zF])
   (repeat refine Ws ?_);refine Wf ?_
   (repeat refine Ws ?_);refine We ?_;intro Kn hKn
   ((simp(maxSteps:=1000000)only[VL,VM,↓VG,reduceIte,reduceCtorEq,zA,zB,zC,zD,zE,zF,zG,zH,zI,zJ,k3,gz,sz]); rw [hKn];clear hKn Kn;simp only [QV,reduceIte,reduceCtorEq,zF])
   rw [hfail (hs0.trans (bad (fun e=>absurd e.1 (by decide)) (fun e=>hm e.2.2) (fun e=>absurd e.1 (by decide)) (fun e=>absurd e.1 (by decide))))]
   refine W_nil3 ?_
   (repeat refine Ws ?_)
   refine W_ret ?_
   try simp only [thenQ,blockQ]
   refine own_retR rfl hX rfl rfl rfl rfl
  have km:((y.counts.length:Int) = 0) = True:=eq_true (by omega)
  (repeat refine Ws ?_);refine We ?_;intro Kn hKn
  ((simp(maxSteps:=1000000)only[VL,VM,↓VG,reduceIte,reduceCtorEq,zA,zB,zC,zD,zE,zF,zG,zH,zI,zJ,n2,PM_0,km]); rw [hKn];clear hKn Kn;simp only [QV,reduceIte,reduceCtorEq,zF])
  (repeat refine Ws ?_);refine Wt ?_
  obtain ⟨a,c,g,rfl⟩:=threeL hl
  have q1:((y.doors.length + 1) * 24≤140737488355328) = True:=eq_true (by omega)
  have hs1:rsStep i (y,b) row = some ({ y with doors:=y.doors++[⟨a,c,g⟩] },false):=hs0.trans (by unfold rsPut; rw [if_neg hi0,if_neg (fun e=>absurd e.1 (by decide)),if_pos ⟨rfl,rfl,hm⟩]; rfl)
  rw [hs1] at hst
  (repeat refine Ws ?_)
  refine W_drawE T_ok [] (by kernel_rfl) (by kernel_rfl) ?_
  intro Kn hKn
  generalize hi:mkPlan _ = infs
  cbv at hi
  subst hi
  simp(maxSteps:=1000000)only[VL,VM,↓VG,reduceIte,reduceCtorEq,zA,zB,zC,zD,zE,zF,zG,zH,zI,zJ,g2,PM_at,PM_0,PM_2,PM_s0,PM_s2,a2,q1]
  rw [hKn]
  clear hKn Kn
  simp only [QV,reduceIte,reduceCtorEq,zF]
  (repeat refine Ws ?_);refine We ?_;intro Kn hKn
  ((simp(maxSteps:=1000000)only[VL,VM,↓VG,reduceIte,reduceCtorEq,zA,zB,zC,zD,zE,zF,zG,zH,zI,zJ,k3]); rw [hKn];clear hKn Kn;simp only [QV,reduceIte,reduceCtorEq,zF])
  refine LoopK.mk ⟨i + 1,{ y with doors:=y.doors++[⟨a,c,g⟩] },false,L⟩ (by simp only; omega) ⟨by simp only; omega,hst,rsStep_ok hs1 hok⟩ ⟨rfl,rfl,rfl,rfl,rfl,trivial⟩ (by simp [PMx,yD])
 have n2:=nu_no hpr h2
 (repeat refine Ws ?_);refine We ?_;intro Kn hKn
 ((simp(maxSteps:=1000000)only[VL,VM,↓VG,reduceIte,reduceCtorEq,zA,zB,zC,zD,zE,zF,zG,zH,zI,zJ,n2]); rw [hKn];clear hKn Kn;simp only [QV,reduceIte,reduceCtorEq,zF])
 (repeat refine Ws ?_);refine Wf ?_
 by_cases h3:w = wCount∧l.length = 6
 ·obtain ⟨rfl,hl⟩:=h3
  obtain ⟨g3,n3⟩:=nu_yes hpr hl
  have n4:=nu_no (w':=wEnd) (k:=1) hpr (fun e=>absurd e.1 (by decide))
  (repeat refine Ws ?_);refine We ?_;intro Kn hKn
  ((simp(maxSteps:=1000000)only[VL,VM,↓VG,reduceIte,reduceCtorEq,zA,zB,zC,zD,zE,zF,zG,zH,zI,zJ,n3]); rw [hKn];clear hKn Kn;simp only [QV,reduceIte,reduceCtorEq,zF])
  (repeat refine Ws ?_);refine Wt ?_
  obtain ⟨a,c,g,d,e,f,rfl⟩:=sixL hl
  have q1:((y.counts.length + 1) * 48≤140737488355328) = True:=eq_true (by omega)
  have hs1:rsStep i (y,b) row = some ({ y with counts:=y.counts++[⟨a,c,⟨g,d⟩,⟨e,f⟩⟩] },false):=hs0.trans (by unfold rsPut; rw [if_neg hi0,if_neg (fun e=>absurd e.1 (by decide)),if_neg (fun e=>absurd e.1 (by decide)),if_pos ⟨rfl,rfl⟩]; rfl)
  rw [hs1] at hst
  (repeat refine Ws ?_)
  refine W_drawE T_ok [] (by kernel_rfl) (by kernel_rfl) ?_
  intro Kn hKn
  generalize hi:mkPlan _ = infs
  cbv at hi
  subst hi
  simp(maxSteps:=1000000)only[VL,VM,↓VG,reduceIte,reduceCtorEq,zA,zB,zC,zD,zE,zF,zG,zH,zI,zJ,g3,PM_at,PM_0,PM_3,PM_s0,PM_s3,a3,q1]
  rw [hKn]
  clear hKn Kn
  simp only [QV,reduceIte,reduceCtorEq,zF]
  (repeat refine Ws ?_);refine We ?_;intro Kn hKn
  ((simp(maxSteps:=1000000)only[VL,VM,↓VG,reduceIte,reduceCtorEq,zA,zB,zC,zD,zE,zF,zG,zH,zI,zJ,k3]); rw [hKn];clear hKn Kn;simp only [QV,reduceIte,reduceCtorEq,zF])
  refine LoopK.mk ⟨i + 1,{ y with counts:=y.counts++[⟨a,c,⟨g,d⟩,⟨e,f⟩⟩] },false,L⟩ (by simp only; omega) ⟨by simp only; omega,hst,rsStep_ok hs1 hok⟩ ⟨rfl,rfl,rfl,rfl,rfl,trivial⟩ (by simp [PMx,yD])
 have n3:=nu_no hpr h3
 (repeat refine Ws ?_);refine We ?_;intro Kn hKn
 ((simp(maxSteps:=1000000)only[VL,VM,↓VG,reduceIte,reduceCtorEq,zA,zB,zC,zD,zE,zF,zG,zH,zI,zJ,n3]); rw [hKn];clear hKn Kn;simp only [QV,reduceIte,reduceCtorEq,zF])
 (repeat refine Ws ?_);refine Wf ?_
 by_cases h4:w = wEnd∧l.length = 1
 ·obtain ⟨rfl,hl⟩:=h4
  obtain ⟨g4,n4⟩:=nu_yes hpr hl
  obtain ⟨a,rfl⟩:=oneL hl
  by_cases ha:a = (y.counts.length:Int)
  rotate_left
  ·have ka:(a = (y.counts.length:Int)) = False:=eq_false ha
   (repeat refine Ws ?_)
   refine W_drawE T_ok [] (by kernel_rfl) (by kernel_rfl) ?_
   intro Kn hKn
   generalize hi:mkPlan _ = infs
   cbv at hi
   subst hi
   ((simp(maxSteps:=1000000)only[VL,VM,↓VG,reduceIte,reduceCtorEq,zA,zB,zC,zD,zE,zF,zG,zH,zI,zJ,n4,g4,PM_at,PM_0,ka]); rw [hKn];clear hKn Kn;simp only [QV,reduceIte,reduceCtorEq,zF])
   (repeat refine Ws ?_);refine Wf ?_
   (repeat refine Ws ?_);refine We ?_;intro Kn hKn
   ((simp(maxSteps:=1000000)only[VL,VM,↓VG,reduceIte,reduceCtorEq,zA,zB,zC,zD,zE,zF,zG,zH,zI,zJ,k3,gz,sz]); rw [hKn];clear hKn Kn;simp only [QV,reduceIte,reduceCtorEq,zF])
   rw [hfail (hs0.trans (bad (fun e=>absurd e.1 (by decide)) (fun e=>absurd e.1 (by decide)) (fun e=>absurd e.1 (by decide)) (fun e=>ha e.2.2)))]
   refine W_nil3 ?_
   (repeat refine Ws ?_)
   refine W_ret ?_
   try simp only [thenQ,blockQ]
   refine own_retR rfl hX rfl rfl rfl rfl
  have ka:(a = (y.counts.length:Int)) = True:=eq_true ha
  have hs1:rsStep i (y,b) row = some (y,true):=hs0.trans (by unfold rsPut; rw [if_neg hi0,if_neg (fun e=>absurd e.1 (by decide)),if_neg (fun e=>absurd e.1 (by decide)),if_neg (fun e=>absurd e.1 (by decide)),if_pos ⟨rfl,rfl⟩]; exact if_pos ha)
  rw [hs1] at hst
  (repeat refine Ws ?_)
  refine W_drawE T_ok [] (by kernel_rfl) (by kernel_rfl) ?_
  intro Kn hKn
  generalize hi:mkPlan _ = infs
  cbv at hi
  subst hi
  ((simp(maxSteps:=1000000)only[VL,VM,↓VG,reduceIte,reduceCtorEq,zA,zB,zC,zD,zE,zF,zG,zH,zI,zJ,n4,g4,PM_at,PM_0,ka]); rw [hKn];clear hKn Kn;simp only [QV,reduceIte,reduceCtorEq,zF])
  (repeat refine Ws ?_);refine Wt ?_
  (repeat refine Ws ?_);refine We ?_;intro Kn hKn
  ((simp(maxSteps:=1000000)only[VL,VM,↓VG,reduceIte,reduceCtorEq,zA,zB,zC,zD,zE,zF,zG,zH,zI,zJ]); rw [hKn];clear hKn Kn;simp only [QV,reduceIte,reduceCtorEq,zF])
  (repeat refine Ws ?_);refine We ?_;intro Kn hKn
  ((simp(maxSteps:=1000000)only[VL,VM,↓VG,reduceIte,reduceCtorEq,zA,zB,zC,zD,zE,zF,zG,zH,zI,zJ,k3]); rw [hKn];clear hKn Kn;simp only [QV,reduceIte,reduceCtorEq,zF])
  refine LoopK.mk ⟨i + 1,y,true,L⟩ (by simp only; omega) ⟨by simp only; omega,hst,rsStep_ok hs1 hok⟩ ⟨rfl,rfl,rfl,rfl,rfl,trivial⟩ rfl
 have n4:=nu_no hpr h4
 (repeat refine Ws ?_)
 refine W_drawE T_ok [] (by kernel_rfl) (by kernel_rfl) ?_
 intro Kn hKn
 generalize hi:mkPlan _ = infs
 cbv at hi
 subst hi
 ((simp(maxSteps:=1000000)only[VL,VM,↓VG,reduceIte,reduceCtorEq,zA,zB,zC,zD,zE,zF,zG,zH,zI,zJ,n4,PM_0]); rw [hKn];clear hKn Kn;simp only [QV,reduceIte,reduceCtorEq,zF])
 (repeat refine Ws ?_);refine Wf ?_
 (repeat refine Ws ?_);refine We ?_;intro Kn hKn
 ((simp(maxSteps:=1000000)only[VL,VM,↓VG,reduceIte,reduceCtorEq,zA,zB,zC,zD,zE,zF,zG,zH,zI,zJ,k3,gz,sz]); rw [hKn];clear hKn Kn;simp only [QV,reduceIte,reduceCtorEq,zF])
 rw [hfail (hs0.trans (bad (fun e=>h1 ⟨e.1,e.2.1⟩) (fun e=>h2 ⟨e.1,e.2.1⟩) h3 (fun e=>h4 ⟨e.1,e.2.1⟩)))]
 refine W_nil3 ?_
 (repeat refine Ws ?_)
 refine W_ret ?_
 try simp only [thenQ,blockQ]
 refine own_retR rfl hX rfl rfl rfl rfl
end Go.Proofs.YtekhddlngbppkaaGreatDoor.Vm
