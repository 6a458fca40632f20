/- A part of the proofs about the doors; no condition. -/
import Derived.Test.YtekhddlngbppkaaGreatDoorB14
import Derived.Test.YtekhddlngbppkaaGreatDoorB33
import Derived.Test.YtekhddlngbppkaaGreatDoorB35
import Derived.Test.YtekhddlngbppkaaGreatDoorB38
set_option linter.unusedVariables false
set_option linter.unusedSimpArgs false
open Int renaming reduceLE → zA, reduceLT → zB, reduceToNat → zC, reduceNeg → zD
open Nat renaming reduceLT → zE, reduceEqDiff → zF, reduceAdd → zG, reduceSub → zH, reduceMul → zI, reduceLeDiff → zJ
/- The reference's Write, on values. (Vm) -/
namespace Go.Proofs.YtekhddlngbppkaaGreatDoor.Vm
open Go Go.Proofs
set_option maxHeartbeats 4000000 in
theorem rwrite_v (y:Ho) (M:Mem) (F:FinH y):VC Tryz.prog 10 [houseV y] M (fun r M'=>M' = M∧r = .tup [vs (writeT y),vi (houseErr y)]):=by
 refine VC_own' T_ok (f := 10) (fn:=Tryz.f10) (by kernel_rfl) rfl Tryz.ntmps10 (by rfl) (by rfl) ?_
 (repeat refine Ws ?_);refine We ?_;intro Kn hKn
 ((simp(maxSteps:=1000000)only[VL,VM,↓VG,reduceIte,reduceCtorEq,zA,zB,zC,zD,zE,zF,zG,zH,zI,zJ]); rw [hKn];clear hKn Kn;simp only [QV,reduceIte,reduceCtorEq,zF])
 (repeat refine Ws ?_);refine We ?_;intro Kn hKn
 simp(maxSteps:=1000000)only[VL,VM,↓VG,reduceIte,reduceCtorEq,zA,zB,zC,zD,zE,zF,zG,zH,zI,zJ]
 apply call_eq (f := 36) (fn:=Tryz.f36) (by kernel_rfl) (by rfl)
 ·exact check_r y _ F.h F.d F.c
 ((simp(maxSteps:=1000000)only[VL,VM,↓VG,reduceIte,reduceCtorEq,zA,zB,zC,zD,zE,zF,zG,zH,zI,zJ]); rw [hKn];clear hKn Kn;simp only [QV,reduceIte,reduceCtorEq,zF])
 (repeat refine Ws ?_);refine We ?_;intro Kn hKn
 by_cases h1:houseErr y = 0
 rotate_left
 ·have k1:(houseErr y = 0) = False:=eq_false h1
  ((simp(maxSteps:=1000000)only[VL,VM,↓VG,reduceIte,reduceCtorEq,zA,zB,zC,zD,zE,zF,zG,zH,zI,zJ,k1]); rw [hKn];clear hKn Kn;simp only [QV,reduceIte,reduceCtorEq,zF])
  (repeat refine Ws ?_);refine Wt ?_
  (repeat refine Ws ?_);refine We ?_;intro Kn hKn
  ((simp(maxSteps:=1000000)only[VL,VM,↓VG,reduceIte,reduceCtorEq,zA,zB,zC,zD,zE,zF,zG,zH,zI,zJ]); rw [hKn];clear hKn Kn;simp only [QV,reduceIte,reduceCtorEq,zF])
  (repeat refine Ws ?_)
  refine W_ret ?_
  try simp only [thenQ,blockQ]
  refine own_ret2t rfl ?_ ?_ (by rfl) (by rfl)
  ·simp only [get_cons,frz,vtup,zF,if_true,if_false,reduceIte]
   rw [show writeT y = [] from if_neg h1]
   rfl
  ·simp only [get_cons,frz,vtup,zF,if_true,if_false,reduceIte]
 have V:=houseErr_ok.1 h1
 have k1:(houseErr y = 0) = True:=eq_true h1
 have c1:=V.n1
 have c2:=V.d1
 have c3:=V.c1
 ((simp(maxSteps:=1000000)only[VL,VM,↓VG,reduceIte,reduceCtorEq,zA,zB,zC,zD,zE,zF,zG,zH,zI,zJ,k1]); rw [hKn];clear hKn Kn;simp only [QV,reduceIte,reduceCtorEq,zF])
 (repeat refine Ws ?_);refine Wf ?_
 (((repeat refine Ws ?_);refine W_skip ?_); simp only [QV,reduceIte,reduceCtorEq,zF])
 have fs:FitL (hoL y):=sm_fit (ho_sm V)
 have l0:(rowS wHouse (hoL y)).length≤41:=Nat.le_trans (rowS_short (w:=wHouse) (ho_sm V)) (by simp [wHouse,hoL])
 (repeat refine Ws ?_);refine We ?_;intro Kn hKn
 simp(maxSteps:=1000000)only[VL,VM,↓VG,reduceIte,reduceCtorEq,zA,zB,zC,zD,zE,zF,zG,zH,zI,zJ]
 apply call_eq (f := 37) (fn:=Tryz.f37) (by kernel_rfl) (by rfl)
 ·exact rrow_v wHouse (hoL y) _ (by simp [hoL]) (by simp [wHouse]) fs
 ((simp(maxSteps:=1000000)only[VL,VM,↓VG,reduceIte,reduceCtorEq,zA,zB,zC,zD,zE,zF,zG,zH,zI,zJ]); rw [hKn];clear hKn Kn;simp only [QV,reduceIte,reduceCtorEq,zF])
 generalize hp0:rowS wHouse (hoL y) = p0 at l0 ⊢
 (repeat refine Ws ?_);refine We ?_;intro Kn hKn
 ((simp(maxSteps:=1000000)only[VL,VM,↓VG,reduceIte,reduceCtorEq,zA,zB,zC,zD,zE,zF,zG,zH,zI,zJ]); rw [hKn];clear hKn Kn;simp only [QV,reduceIte,reduceCtorEq,zF])
 have lr0:∀ i,(hlS (y.holds.take i)).length≤12 * 4:=fun i=>by
  have:=byF_len (f:=fun n=>rowS wHall [n]) (k:=12) (l:=y.holds.take i) fun r hr=>by
   simpa [wHall] using rowS_short (w:=wHall) (hl_sm V (List.mem_of_mem_take hr))
  rw [List.length_take] at this
  unfold hlS
  omega
 ((repeat refine Ws ?_);refine W_block ?_; (repeat refine Ws ?_)); refine W_loopS (fun s:Nat×List VObj=>[(1,.ptr M.H.length 0),(5,vs (p0++hlS (y.holds.take s.1))),(6,vi s.1)]) (fun s=>⟨M.H ++ .obj (houseC y) :: s.2,M.lg⟩) (fun s=>y.holds.length - s.1) (fun s=>s.1≤y.holds.length) (0,[]) (Nat.zero_le _) ⟨rfl,by simp [get_cons,hlS],rfl,trivial⟩ (by simp) ?_
 rintro ⟨i,L⟩ hi
 simp only at hi
 have k2 : -9223372036854775808≤(i:Int) + 1∧(i:Int) + 1 < 9223372036854775808:=by omega
 (repeat refine Ws ?_);refine We ?_;intro Kn hKn
 rcases Nat.lt_or_ge i y.holds.length with hlt | hge
 ·have k3:((i:Int) < (y.holds.length:Int)) = True:=eq_true (by omega)
  have hx:=map_at (f:=intP) (List.getElem?_eq_getElem hlt)
  have hmem:=List.getElem_mem hlt
  have key:hlS (y.holds.take (i + 1)) = _:=byF_take (f:=fun n=>rowS wHall [n]) hlt
  have ll:=lr0 i
  generalize y.holds[i] = x at hx hmem key
  have ek:(y.holds.take i).flatMap (fun n=>rowS wHall [n]) = hlS (y.holds.take i):=rfl
  rw [ek] at key
  generalize hlS (y.holds.take i) = pre at key ll ⊢
  have hs:=hl_sm V hmem
  have hw:=rowS_short (w:=wHall) hs
  have hw2:(rowS wHall ([x])).length≤60:=Nat.le_trans hw (by simp [wHall])
  have q1:=v_addS 9 (p0++pre) (rowS wHall ([x])) (by rw [List.length_append]; omega)
  have hrow:=fun M2=>rrow_v wHall ([x]) M2 (by simp) (by simp [wHall]) (sm_fit hs)
  ((simp(maxSteps:=1000000)only[VL,VM,↓VG,reduceIte,reduceCtorEq,zA,zB,zC,zD,zE,zF,zG,zH,zI,zJ,k3]); rw [hKn];clear hKn Kn;simp only [QV,reduceIte,reduceCtorEq,zF])
  (repeat refine Ws ?_);refine Wt ?_
  (((repeat refine Ws ?_);refine W_skip ?_); simp only [QV,reduceIte,reduceCtorEq,zF])
  (repeat refine Ws ?_);refine W_block ?_
  (repeat refine Ws ?_);refine We ?_;intro Kn hKn
  simp(maxSteps:=1000000)only[VL,VM,↓VG,reduceIte,reduceCtorEq,zA,zB,zC,zD,zE,zF,zG,zH,zI,zJ,hx]
  apply call_eq (f := 37) (fn:=Tryz.f37) (by kernel_rfl) (by rfl)
  ·exact hrow _
  ((simp(maxSteps:=1000000)only[VL,VM,↓VG,reduceIte,reduceCtorEq,zA,zB,zC,zD,zE,zF,zG,zH,zI,zJ,q1]); rw [hKn];clear hKn Kn;simp only [QV,reduceIte,reduceCtorEq,zF])
  (repeat refine Ws ?_);refine We ?_;intro Kn hKn
  ((simp(maxSteps:=1000000)only[VL,VM,↓VG,reduceIte,reduceCtorEq,zA,zB,zC,zD,zE,zF,zG,zH,zI,zJ,k2]); rw [hKn];clear hKn Kn;simp only [QV,reduceIte,reduceCtorEq,zF])
  refine LoopK.mk (i + 1,_) (by simp; omega) (by simp; omega) ⟨rfl,?_,rfl,trivial⟩ rfl
  rw [key]; simp [get_cons]
 have k3:((i:Int) < (y.holds.length:Int)) = False:=eq_false (by omega)
 obtain rfl:i = y.holds.length:=by omega
 have lrr:=lr0 y.holds.length
 rw [List.take_length] at lrr
 ((simp(maxSteps:=1000000)only[VL,VM,↓VG,reduceIte,reduceCtorEq,zA,zB,zC,zD,zE,zF,zG,zH,zI,zJ,k3,List.take_length]); rw [hKn];clear hKn Kn;simp only [QV,reduceIte,reduceCtorEq,zF])
 (repeat refine Ws ?_);refine Wf ?_
 (((repeat refine Ws ?_);refine W_exit ?_); simp only [QV,reduceIte,reduceCtorEq,zF])
 obtain ⟨p1,hp1⟩:∃ q,q = p0++hlS y.holds:=⟨_,rfl⟩
 rw [← hp1]
 have l1:p1.length≤89:=by rw [hp1,List.length_append]; omega
 (repeat refine Ws ?_);refine We ?_;intro Kn hKn
 ((simp(maxSteps:=1000000)only[VL,VM,↓VG,reduceIte,reduceCtorEq,zA,zB,zC,zD,zE,zF,zG,zH,zI,zJ]); rw [hKn];clear hKn Kn;simp only [QV,reduceIte,reduceCtorEq,zF])
 have lr1:∀ i,(drS (y.doors.take i)).length≤26 * 5:=fun i=>by
  have:=byF_len (f:=fun d=>rowS wDoor (doL d)) (k:=26) (l:=y.doors.take i) fun r hr=>by
   simpa [doL,wDoor] using rowS_short (w:=wDoor) (do_sm V (List.mem_of_mem_take hr))
  rw [List.length_take] at this
  unfold drS
  omega
 ((repeat refine Ws ?_);refine W_block ?_; (repeat refine Ws ?_)); refine W_loopS (fun s:Nat×List VObj=>[(1,.ptr M.H.length 0),(5,vs (p1++drS (y.doors.take s.1))),(7,vi s.1)]) (fun s=>⟨M.H ++ .obj (houseC y) :: s.2,M.lg⟩) (fun s=>y.doors.length - s.1) (fun s=>s.1≤y.doors.length) (0,L) (Nat.zero_le _) ⟨rfl,by simp [get_cons,drS],rfl,trivial⟩ (by simp) ?_
 rintro ⟨i,L⟩ hi
 simp only at hi
 have k2 : -9223372036854775808≤(i:Int) + 1∧(i:Int) + 1 < 9223372036854775808:=by omega
 (repeat refine Ws ?_);refine We ?_;intro Kn hKn
 rcases Nat.lt_or_ge i y.doors.length with hlt | hge
 ·have k3:((i:Int) < (y.doors.length:Int)) = True:=eq_true (by omega)
  have hx:=map_at (f:=doP) (List.getElem?_eq_getElem hlt)
  have hmem:=List.getElem_mem hlt
  have key:drS (y.doors.take (i + 1)) = _:=byF_take (f:=fun d=>rowS wDoor (doL d)) hlt
  have ll:=lr1 i
  generalize y.doors[i] = x at hx hmem key
  have ek:(y.doors.take i).flatMap (fun d=>rowS wDoor (doL d)) = drS (y.doors.take i):=rfl
  rw [ek] at key
  generalize drS (y.doors.take i) = pre at key ll ⊢
  have hs:=do_sm V hmem
  have hw:=rowS_short (w:=wDoor) hs
  have hw2:(rowS wDoor (doL x)).length≤60:=Nat.le_trans hw (by simp [doL,wDoor])
  have q1:=v_addS 9 (p1++pre) (rowS wDoor (doL x)) (by rw [List.length_append]; omega)
  have hrow:=fun M2=>rrow_v wDoor (doL x) M2 (by simp [doL]) (by simp [wDoor]) (sm_fit hs)
  ((simp(maxSteps:=1000000)only[VL,VM,↓VG,reduceIte,reduceCtorEq,zA,zB,zC,zD,zE,zF,zG,zH,zI,zJ,k3]); rw [hKn];clear hKn Kn;simp only [QV,reduceIte,reduceCtorEq,zF])
  (repeat refine Ws ?_);refine Wt ?_
  (((repeat refine Ws ?_);refine W_skip ?_); simp only [QV,reduceIte,reduceCtorEq,zF])
  (repeat refine Ws ?_);refine W_block ?_
  (repeat refine Ws ?_)
  refine W_drawE T_ok [] (by kernel_rfl) (by kernel_rfl) ?_
  intro Kn hKn
  generalize hi:mkPlan _ = infs
  cbv at hi
  subst hi
  simp(maxSteps:=1000000)only[VL,VM,↓VG,reduceIte,reduceCtorEq,zA,zB,zC,zD,zE,zF,zG,zH,zI,zJ,hx]
  apply call_d (f := 37) (fn:=Tryz.f37) (by kernel_rfl) (by rfl)
  ·exact hrow _
  ((simp(maxSteps:=1000000)only[VL,VM,↓VG,reduceIte,reduceCtorEq,zA,zB,zC,zD,zE,zF,zG,zH,zI,zJ,q1]); rw [hKn];clear hKn Kn;simp only [QV,reduceIte,reduceCtorEq,zF])
  (repeat refine Ws ?_);refine We ?_;intro Kn hKn
  ((simp(maxSteps:=1000000)only[VL,VM,↓VG,reduceIte,reduceCtorEq,zA,zB,zC,zD,zE,zF,zG,zH,zI,zJ,k2]); rw [hKn];clear hKn Kn;simp only [QV,reduceIte,reduceCtorEq,zF])
  refine LoopK.mk (i + 1,_) (by simp; omega) (by simp; omega) ⟨rfl,?_,rfl,trivial⟩ rfl
  rw [key]; simp [get_cons]
 have k3:((i:Int) < (y.doors.length:Int)) = False:=eq_false (by omega)
 obtain rfl:i = y.doors.length:=by omega
 have lrr:=lr1 y.doors.length
 rw [List.take_length] at lrr
 ((simp(maxSteps:=1000000)only[VL,VM,↓VG,reduceIte,reduceCtorEq,zA,zB,zC,zD,zE,zF,zG,zH,zI,zJ,k3,List.take_length]); rw [hKn];clear hKn Kn;simp only [QV,reduceIte,reduceCtorEq,zF])
 (repeat refine Ws ?_);refine Wf ?_
 (((repeat refine Ws ?_);refine W_exit ?_); simp only [QV,reduceIte,reduceCtorEq,zF])
 obtain ⟨p2,hp2⟩:∃ q,q = p1++drS y.doors:=⟨_,rfl⟩
 rw [← hp2]
 have l2:p2.length≤219:=by rw [hp2,List.length_append]; omega
 (repeat refine Ws ?_);refine We ?_;intro Kn hKn
 ((simp(maxSteps:=1000000)only[VL,VM,↓VG,reduceIte,reduceCtorEq,zA,zB,zC,zD,zE,zF,zG,zH,zI,zJ]); rw [hKn];clear hKn Kn;simp only [QV,reduceIte,reduceCtorEq,zF])
 have lr2:∀ i,(ctS (y.counts.take i)).length≤48 * 24:=fun i=>by
  have:=byF_len (f:=fun c=>rowS wCount (coL c)) (k:=48) (l:=y.counts.take i) fun r hr=>by
   simpa [coL,wCount] using rowS_short (w:=wCount) (co_sm V (List.mem_of_mem_take hr))
  rw [List.length_take] at this
  unfold ctS
  omega
 ((repeat refine Ws ?_);refine W_block ?_; (repeat refine Ws ?_)); refine W_loopS (fun s:Nat×List VObj=>[(1,.ptr M.H.length 0),(5,vs (p2++ctS (y.counts.take s.1))),(8,vi s.1)]) (fun s=>⟨M.H ++ .obj (houseC y) :: s.2,M.lg⟩) (fun s=>y.counts.length - s.1) (fun s=>s.1≤y.counts.length) (0,L) (Nat.zero_le _) ⟨rfl,by simp [get_cons,ctS],rfl,trivial⟩ (by simp) ?_
 rintro ⟨i,L⟩ hi
 simp only at hi
 have k2 : -9223372036854775808≤(i:Int) + 1∧(i:Int) + 1 < 9223372036854775808:=by omega
 (repeat refine Ws ?_);refine We ?_;intro Kn hKn
 rcases Nat.lt_or_ge i y.counts.length with hlt | hge
 ·have k3:((i:Int) < (y.counts.length:Int)) = True:=eq_true (by omega)
  have hx:=map_at (f:=coP) (List.getElem?_eq_getElem hlt)
  have hmem:=List.getElem_mem hlt
  have key:ctS (y.counts.take (i + 1)) = _:=byF_take (f:=fun c=>rowS wCount (coL c)) hlt
  have ll:=lr2 i
  generalize y.counts[i] = x at hx hmem key
  have ek:(y.counts.take i).flatMap (fun c=>rowS wCount (coL c)) = ctS (y.counts.take i):=rfl
  rw [ek] at key
  generalize ctS (y.counts.take i) = pre at key ll ⊢
  have hs:=co_sm V hmem
  have hw:=rowS_short (w:=wCount) hs
  have hw2:(rowS wCount (coL x)).length≤60:=Nat.le_trans hw (by simp [coL,wCount])
  have q1:=v_addS 9 (p2++pre) (rowS wCount (coL x)) (by rw [List.length_append]; omega)
  have hrow:=fun M2=>rrow_v wCount (coL x) M2 (by simp [coL]) (by simp [wCount]) (sm_fit hs)
  ((simp(maxSteps:=1000000)only[VL,VM,↓VG,reduceIte,reduceCtorEq,zA,zB,zC,zD,zE,zF,zG,zH,zI,zJ,k3]); rw [hKn];clear hKn Kn;simp only [QV,reduceIte,reduceCtorEq,zF])
  (repeat refine Ws ?_);refine Wt ?_
  (((repeat refine Ws ?_);refine W_skip ?_); simp only [QV,reduceIte,reduceCtorEq,zF])
  (repeat refine Ws ?_);refine W_block ?_
  (repeat refine Ws ?_);refine We ?_;intro Kn hKn
  ((simp(maxSteps:=1000000)only[VL,VM,↓VG,reduceIte,reduceCtorEq,zA,zB,zC,zD,zE,zF,zG,zH,zI,zJ,hx]); rw [hKn];clear hKn Kn;simp only [QV,reduceIte,reduceCtorEq,zF])
  (repeat refine Ws ?_);refine We ?_;intro Kn hKn
  simp(maxSteps:=1000000)only[VL,VM,↓VG,reduceIte,reduceCtorEq,zA,zB,zC,zD,zE,zF,zG,zH,zI,zJ]
  apply call_eq (f := 37) (fn:=Tryz.f37) (by kernel_rfl) (by rfl)
  ·exact hrow _
  ((simp(maxSteps:=1000000)only[VL,VM,↓VG,reduceIte,reduceCtorEq,zA,zB,zC,zD,zE,zF,zG,zH,zI,zJ,q1]); rw [hKn];clear hKn Kn;simp only [QV,reduceIte,reduceCtorEq,zF])
  (repeat refine Ws ?_);refine We ?_;intro Kn hKn
  ((simp(maxSteps:=1000000)only[VL,VM,↓VG,reduceIte,reduceCtorEq,zA,zB,zC,zD,zE,zF,zG,zH,zI,zJ,k2]); rw [hKn];clear hKn Kn;simp only [QV,reduceIte,reduceCtorEq,zF])
  refine LoopK.mk (i + 1,_) (by simp; omega) (by simp; omega) ⟨rfl,?_,rfl,trivial⟩ rfl
  rw [key]; simp [get_cons]
 have k3:((i:Int) < (y.counts.length:Int)) = False:=eq_false (by omega)
 obtain rfl:i = y.counts.length:=by omega
 have lrr:=lr2 y.counts.length
 rw [List.take_length] at lrr
 ((simp(maxSteps:=1000000)only[VL,VM,↓VG,reduceIte,reduceCtorEq,zA,zB,zC,zD,zE,zF,zG,zH,zI,zJ,k3,List.take_length]); rw [hKn];clear hKn Kn;simp only [QV,reduceIte,reduceCtorEq,zF])
 (repeat refine Ws ?_);refine Wf ?_
 (((repeat refine Ws ?_);refine W_exit ?_); simp only [QV,reduceIte,reduceCtorEq,zF])
 obtain ⟨p3,hp3⟩:∃ q,q = p2++ctS y.counts:=⟨_,rfl⟩
 rw [← hp3]
 have l3:p3.length≤1371:=by rw [hp3,List.length_append]; omega
 have se:=end_sm V
 have l9:(rowS wEnd [(y.counts.length:Int)]).length≤13:=Nat.le_trans (rowS_short (w:=wEnd) se) (by simp [wEnd])
 have q1:=v_addS 9 p3 (rowS wEnd [(y.counts.length:Int)]) (by omega)
 (repeat refine Ws ?_);refine We ?_;intro Kn hKn
 simp(maxSteps:=1000000)only[VL,VM,↓VG,reduceIte,reduceCtorEq,zA,zB,zC,zD,zE,zF,zG,zH,zI,zJ]
 apply call_eq (f := 37) (fn:=Tryz.f37) (by kernel_rfl) (by rfl)
 ·exact rrow_v wEnd [(y.counts.length:Int)] _ (by simp) (by simp [wEnd]) (sm_fit se)
 ((simp(maxSteps:=1000000)only[VL,VM,↓VG,reduceIte,reduceCtorEq,zA,zB,zC,zD,zE,zF,zG,zH,zI,zJ,q1]); rw [hKn];clear hKn Kn;simp only [QV,reduceIte,reduceCtorEq,zF])
 (repeat refine Ws ?_)
 refine W_ret ?_
 try simp only [thenQ,blockQ]
 refine own_ret2t rfl ?_ ?_ (by rfl) (by rfl)
 ·simp only [get_cons,frz,vtup,zF,if_true,if_false,reduceIte]
  rw [show writeT y = writeS y from if_pos h1,writeS,hp3,hp2,hp1,hp0]
 ·simp only [get_cons,frz,vtup,zF,if_true,if_false,reduceIte]
  rw [h1]
end Go.Proofs.YtekhddlngbppkaaGreatDoor.Vm

/- The reference's split, on values. (Vm) -/
namespace Go.Proofs.YtekhddlngbppkaaGreatDoor.Vm
open Go Go.Proofs
structure SplS where
 i:Nat
 fr:Nat
 dn:List By
theorem u8_inj {a b:UInt8}:(a.toNat = b.toNat)↔a = b:=⟨fun h=>UInt8.toNat_inj.1 h,fun h=>by rw [h]⟩
theorem no_drop {c:UInt8} {s:By} {fr i:Nat} (h1:fr≤i) (hi:i < s.length) (h:c ∉ (s.take i).drop fr) (hx:s[i]≠c):c ∉ (s.take (i + 1)).drop fr:=by
 rw [List.take_succ_eq_append_getElem hi,List.drop_append_of_le_length (by rw [List.length_take]; omega)]
 intro hm
 rcases List.mem_append.1 hm with hm | hm
 ·exact h hm
 ·exact hx (List.mem_singleton.1 hm).symm
theorem rsplit_v (c:UInt8) (s:By) (M:Mem) (hs:s.length≤1000000):VC Tryz.prog 42 [vs s,su c.toNat] M (fun r M'=>M' = M∧r = strsW (cutL c s)):=by
 refine VC_own' T_ok (f := 42) (fn:=Tryz.f42) (by kernel_rfl) rfl Tryz.ntmps42 (by rfl) (by rfl) ?_
 (repeat refine Ws ?_);refine We ?_;intro Kn hKn
 ((simp(maxSteps:=1000000)only[VL,VM,↓VG,reduceIte,reduceCtorEq,zA,zB,zC,zD,zE,zF,zG,zH,zI,zJ]); rw [hKn];clear hKn Kn;simp only [QV,reduceIte,reduceCtorEq,zF])
 (repeat refine Ws ?_);refine We ?_;intro Kn hKn
 ((simp(maxSteps:=1000000)only[VL,VM,↓VG,reduceIte,reduceCtorEq,zA,zB,zC,zD,zE,zF,zG,zH,zI,zJ]); rw [hKn];clear hKn Kn;simp only [QV,reduceIte,reduceCtorEq,zF])
 (repeat refine Ws ?_);refine We ?_;intro Kn hKn
 ((simp(maxSteps:=1000000)only[VL,VM,↓VG,reduceIte,reduceCtorEq,zA,zB,zC,zD,zE,zF,zG,zH,zI,zJ]); rw [hKn];clear hKn Kn;simp only [QV,reduceIte,reduceCtorEq,zF])
 (repeat refine Ws ?_)
 refine W_tok (t:=5) (k:=1) rfl ?_
 (repeat refine Ws ?_);refine We ?_;intro Kn hKn
 ((simp(maxSteps:=1000000)only[VL,VM,↓VG,reduceIte,reduceCtorEq,zA,zB,zC,zD,zE,zF,zG,zH,zI,zJ]); rw [hKn];clear hKn Kn;simp only [QV,reduceIte,reduceCtorEq,zF])
 ((repeat refine Ws ?_);refine W_block ?_; (repeat refine Ws ?_)); refine W_loopS (fun z:SplS=>[(0,vs s),(1,su c.toNat),(5,.so M.H.length 1 (strsV z.dn)),(6,vi z.fr),(7,vi z.i)]) (fun z=>⟨M.H++[.clm z.dn.length 1],M.lg⟩) (fun z=>s.length + 1 - z.i) (fun z=>z.dn.length≤z.i∧((z.i≤s.length∧z.fr≤z.i∧cutL c s = z.dn++cutL c (s.drop z.fr)∧c ∉ (s.take z.i).drop z.fr)∨(z.i = s.length + 1∧z.dn = cutL c s))) ⟨0,0,[]⟩ ⟨Nat.zero_le _,.inl ⟨Nat.zero_le _,Nat.le_refl _,rfl,by simp⟩⟩ ⟨rfl,rfl,rfl,rfl,rfl,trivial⟩ (by simp) ?_
 rintro ⟨i,fr,dn⟩ ⟨hd,hI⟩
 simp only at hd hI
 have k1 : -9223372036854775808≤(i:Int) + 1∧(i:Int) + 1 < 9223372036854775808:=by omega
 rcases hI with ⟨hi,hf,hcut,hno⟩ | ⟨hi,hdn⟩
 rotate_left
 ·have k2:((i:Int)≤(s.length:Int)) = False:=eq_false (by omega)
  (repeat refine Ws ?_);refine We ?_;intro Kn hKn
  ((simp(maxSteps:=1000000)only[VL,VM,↓VG,reduceIte,reduceCtorEq,zA,zB,zC,zD,zE,zF,zG,zH,zI,zJ,tx_size,k2]); rw [hKn];clear hKn Kn;simp only [QV,reduceIte,reduceCtorEq,zF])
  (repeat refine Ws ?_);refine Wf ?_
  (((repeat refine Ws ?_);refine W_exit ?_); simp only [QV,reduceIte,reduceCtorEq,zF])
  (repeat refine Ws ?_);refine We ?_;intro Kn hKn
  ((simp(maxSteps:=1000000)only[VL,VM,↓VG,reduceIte,reduceCtorEq,zA,zB,zC,zD,zE,zF,zG,zH,zI,zJ]); rw [hKn];clear hKn Kn;simp only [QV,reduceIte,reduceCtorEq,zF])
  (repeat refine Ws ?_)
  refine W_ret ?_
  try simp only [thenQ,blockQ]
  refine own_ret1 rfl ?_ (by rfl)
  simp only [get_cons,frz,vtup,zF,if_true,if_false,reduceIte]
  rw [hdn]
 have k2:((i:Int)≤(s.length:Int)) = True:=eq_true (by omega)
 have q1:((dn.length + 1) * 16≤140737488355328) = True:=eq_true (by omega)
 have hlen:(strsV dn).length = dn.length:=strs_len dn
 rcases Nat.lt_or_ge i s.length with hlt | hge
 ·have k3:((i:Int) = (s.length:Int)) = False:=eq_false (by omega)
  have hx:(tx s)[i]? = some s[i]:=by rw [tx_get,List.getElem?_eq_getElem hlt]
  by_cases hc:s[i] = c
  ·have k4:(s[i].toNat = c.toNat) = True:=eq_true (by rw [hc])
   have k5:(i≤s.length) = True:=eq_true (by omega)
   have k6:(fr≤i) = True:=eq_true hf
   have hst:=cut_step c hf (by rw [List.getElem?_eq_getElem hlt,hc]) hno
   (repeat refine Ws ?_);refine We ?_;intro Kn hKn
   ((simp(maxSteps:=1000000)only[VL,VM,↓VG,reduceIte,reduceCtorEq,zA,zB,zC,zD,zE,zF,zG,zH,zI,zJ,tx_size,k2]); rw [hKn];clear hKn Kn;simp only [QV,reduceIte,reduceCtorEq,zF])
   (repeat refine Ws ?_);refine Wt ?_
   (((repeat refine Ws ?_);refine W_skip ?_); simp only [QV,reduceIte,reduceCtorEq,zF])
   (repeat refine Ws ?_);refine W_block ?_
   (repeat refine Ws ?_);refine We ?_;intro Kn hKn
   ((simp(maxSteps:=1000000)only[VL,VM,↓VG,reduceIte,reduceCtorEq,zA,zB,zC,zD,zE,zF,zG,zH,zI,zJ,tx_size,k3,hx,u8_eql,k4]); rw [hKn];clear hKn Kn;simp only [QV,reduceIte,reduceCtorEq,zF])
   (repeat refine Ws ?_);refine Wt ?_
   (repeat refine Ws ?_);refine We ?_;intro Kn hKn
   ((simp(maxSteps:=1000000)only[VL,VM,↓VG,reduceIte,reduceCtorEq,zA,zB,zC,zD,zE,zF,zG,zH,zI,zJ,tx_size,k5,k6,decide_true,Bool.and_true,tx_extract,hlen,q1]); rw [hKn];clear hKn Kn;simp only [QV,reduceIte,reduceCtorEq,zF])
   (repeat refine Ws ?_);refine We ?_;intro Kn hKn
   ((simp(maxSteps:=1000000)only[VL,VM,↓VG,reduceIte,reduceCtorEq,zA,zB,zC,zD,zE,zF,zG,zH,zI,zJ,k1]); rw [hKn];clear hKn Kn;simp only [QV,reduceIte,reduceCtorEq,zF])
   (repeat refine Ws ?_);refine We ?_;intro Kn hKn
   ((simp(maxSteps:=1000000)only[VL,VM,↓VG,reduceIte,reduceCtorEq,zA,zB,zC,zD,zE,zF,zG,zH,zI,zJ,k1]); rw [hKn];clear hKn Kn;simp only [QV,reduceIte,reduceCtorEq,zF])
   refine LoopK.mk ⟨i + 1,i + 1,dn++[(s.take i).drop fr]⟩ (by simp only; omega) ⟨by simp; omega,.inl ⟨by simp only; omega,Nat.le_refl _,?_,by simp⟩⟩ ⟨rfl,rfl,?_,rfl,rfl,trivial⟩ ?_
   ·simp only [List.append_assoc,List.singleton_append]
    rw [← hst,hcut]
   ·simp [get_cons,strsV]
   ·simp
  ·have k4:(s[i].toNat = c.toNat) = False:=eq_false (fun e=>hc (u8_inj.1 e))
   (repeat refine Ws ?_);refine We ?_;intro Kn hKn
   ((simp(maxSteps:=1000000)only[VL,VM,↓VG,reduceIte,reduceCtorEq,zA,zB,zC,zD,zE,zF,zG,zH,zI,zJ,tx_size,k2]); rw [hKn];clear hKn Kn;simp only [QV,reduceIte,reduceCtorEq,zF])
   (repeat refine Ws ?_);refine Wt ?_
   (((repeat refine Ws ?_);refine W_skip ?_); simp only [QV,reduceIte,reduceCtorEq,zF])
   (repeat refine Ws ?_);refine W_block ?_
   (repeat refine Ws ?_);refine We ?_;intro Kn hKn
   ((simp(maxSteps:=1000000)only[VL,VM,↓VG,reduceIte,reduceCtorEq,zA,zB,zC,zD,zE,zF,zG,zH,zI,zJ,tx_size,k3,hx,u8_eql,k4]); rw [hKn];clear hKn Kn;simp only [QV,reduceIte,reduceCtorEq,zF])
   (repeat refine Ws ?_);refine Wf ?_
   (((repeat refine Ws ?_);refine W_skip ?_); simp only [QV,reduceIte,reduceCtorEq,zF])
   (repeat refine Ws ?_);refine We ?_;intro Kn hKn
   ((simp(maxSteps:=1000000)only[VL,VM,↓VG,reduceIte,reduceCtorEq,zA,zB,zC,zD,zE,zF,zG,zH,zI,zJ,k1]); rw [hKn];clear hKn Kn;simp only [QV,reduceIte,reduceCtorEq,zF])
   exact LoopK.mk ⟨i + 1,fr,dn⟩ (by simp only; omega) ⟨by simp only; omega,.inl ⟨by simp only; omega,by simp only; omega,hcut,no_drop hf hlt hno hc⟩⟩ ⟨rfl,rfl,rfl,rfl,rfl,trivial⟩ rfl
 ·obtain rfl:i = s.length:=by omega
  have k3:((s.length:Int) = (s.length:Int)) = True:=eq_true rfl
  have k5:(s.length≤s.length) = True:=eq_true (Nat.le_refl _)
  have k6:(fr≤s.length) = True:=eq_true hf
  rw [List.take_length] at hno
  (repeat refine Ws ?_);refine We ?_;intro Kn hKn
  ((simp(maxSteps:=1000000)only[VL,VM,↓VG,reduceIte,reduceCtorEq,zA,zB,zC,zD,zE,zF,zG,zH,zI,zJ,tx_size,k2]); rw [hKn];clear hKn Kn;simp only [QV,reduceIte,reduceCtorEq,zF])
  (repeat refine Ws ?_);refine Wt ?_
  (((repeat refine Ws ?_);refine W_skip ?_); simp only [QV,reduceIte,reduceCtorEq,zF])
  (repeat refine Ws ?_);refine W_block ?_
  (repeat refine Ws ?_);refine We ?_;intro Kn hKn
  ((simp(maxSteps:=1000000)only[VL,VM,↓VG,reduceIte,reduceCtorEq,zA,zB,zC,zD,zE,zF,zG,zH,zI,zJ,tx_size,k3]); rw [hKn];clear hKn Kn;simp only [QV,reduceIte,reduceCtorEq,zF])
  (repeat refine Ws ?_);refine Wt ?_
  (repeat refine Ws ?_);refine We ?_;intro Kn hKn
  ((simp(maxSteps:=1000000)only[VL,VM,↓VG,reduceIte,reduceCtorEq,zA,zB,zC,zD,zE,zF,zG,zH,zI,zJ,tx_size,k5,k6,decide_true,Bool.and_true,tx_extract,List.take_length,hlen,q1]); rw [hKn];clear hKn Kn;simp only [QV,reduceIte,reduceCtorEq,zF])
  (repeat refine Ws ?_);refine We ?_;intro Kn hKn
  ((simp(maxSteps:=1000000)only[VL,VM,↓VG,reduceIte,reduceCtorEq,zA,zB,zC,zD,zE,zF,zG,zH,zI,zJ,k1]); rw [hKn];clear hKn Kn;simp only [QV,reduceIte,reduceCtorEq,zF])
  (repeat refine Ws ?_);refine We ?_;intro Kn hKn
  ((simp(maxSteps:=1000000)only[VL,VM,↓VG,reduceIte,reduceCtorEq,zA,zB,zC,zD,zE,zF,zG,zH,zI,zJ,k1]); rw [hKn];clear hKn Kn;simp only [QV,reduceIte,reduceCtorEq,zF])
  refine LoopK.mk ⟨s.length + 1,s.length + 1,dn++[s.drop fr]⟩ (by simp only; omega) ⟨by simp; omega,.inr ⟨rfl,?_⟩⟩ ⟨rfl,rfl,?_,rfl,rfl,trivial⟩ ?_
  ·rw [hcut,cutL_none c hno]
  ·simp [get_cons,strsV]
  ·simp
end Go.Proofs.YtekhddlngbppkaaGreatDoor.Vm

/- What holds behind a piece of code. (Vm) -/
namespace Go.Proofs.YtekhddlngbppkaaGreatDoor.Vm
open Go
theorem W_then {P:Program} {cx:Cx} {e:Env} {M:Mem} {D:List Nat} {Q:PQ} {c:Code} {Kn:Env→Mem→List Nat→Prop} (E:Env) (M1:Mem) (h1:WCode P cx c e M D (fun ex e' M' D'=>ex = .normal∧D' = D∧M' = M1∧Sub E e')) (h2:∀ e',Sub E e'→Kn e' M1 D):WCode P cx c e M D (thenQ Kn Q) :=
 h1.mono (by rintro ex e' M' D' ⟨rfl,rfl,rfl,hS⟩; exact h2 e' hS)
end Go.Proofs.YtekhddlngbppkaaGreatDoor.Vm
