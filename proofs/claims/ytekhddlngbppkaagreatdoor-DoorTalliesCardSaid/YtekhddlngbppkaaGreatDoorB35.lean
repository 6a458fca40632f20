/- A part of the proofs about the doors; no condition. -/
import Derived.Test.YtekhddlngbppkaaGreatDoorB13
import Derived.Test.YtekhddlngbppkaaGreatDoorB17
import Derived.Test.YtekhddlngbppkaaGreatDoorB33
import Derived.Test.YtekhddlngbppkaaGreatDoorB34
set_option linter.unusedVariables false
set_option linter.unusedSimpArgs false
open Int renaming reduceLE → zA, reduceLT → zB, reduceToNat → zC, reduceNeg → zD
open Nat renaming reduceLT → zE, reduceEqDiff → zF, reduceAdd → zG, reduceSub → zH, reduceMul → zI, reduceLeDiff → zJ
/- The program's Write, on values. (Vm) -/
namespace Go.Proofs.YtekhddlngbppkaaGreatDoor.Vm
open Go Go.Proofs
def WM (H:List VObj) (y:Ho) (p:By) (L:List VObj):List VObj:=H ++ .obj (houseC y) :: .clm p.length 1 :: .bld tBld tByte (H.length + 1) p :: L
section
variable {H:List VObj} {y:Ho} {p p':By} {L:List VObj}
theorem WM_app (X:List VObj):WM H y p L++X = WM H y p (L++X):=by simp [WM]
theorem WM_y:(WM H y p L)[H.length]? = some (.obj (houseC y)):=by unfold WM; rw [hget0]; rfl
theorem WM_len:(WM H y p L).length = H.length + (3 + L.length):=by simp [WM]; omega
theorem WM_at (k:Nat):(WM H y p L)[H.length + (3 + k)]? = L[k]?:=by
 unfold WM
 rw [hget,show 3 + k = k + 3 by omega]
 rfl
theorem WM_set (k:Nat) (o:VObj):(WM H y p L).set (H.length + (3 + k)) o = WM H y p (L.set k o):=by
 unfold WM
 rw [hset,show 3 + k = k + 3 by omega]
 rfl
theorem WM_bld:bldH (WM H y p L) (H.length + 2) (H.length + 1) p' = WM H y p' L:=by
 unfold bldH WM
 rw [hset,hset]
 rfl
theorem WM_end:bldE (WM H y p L) (H.length + 2) (H.length + 1) p = H ++ .obj (houseC y) :: .clm (p.length + 1) 1 :: .bld tBld tByte (H.length + 1) p :: L:=by
 unfold bldE WM
 rw [hset,hset]
 rfl
end
theorem prowW {w:By} {l:List Int} {H:List VObj} {y:Ho} {p:By} {L:List VObj} {lg:List (Nat×Nat)} (hw0:w≠[]) (hw:w.length≤1000000) (hl:l.length≤1000000) (hp:p.length≤1000000000) (hf:FitL l) :
  VC Tryz.prog 32 [vs w,intsV l,.ptr (H.length + 2) 0] ⟨WM H y p L,lg⟩ (fun r M'=>M' = ⟨WM H y (p++rowS w l) L,lg⟩∧r = .tup []):=by
 have h:=prow_v w l (H:=WM H y p L) (i:=H.length + 2) (j:=H.length + 1) (pre:=p) (lg:=lg) (by omega) (by rw [WM_len]; omega) (by rw [WM_len]; omega) hw0 hw hl hp hf
 rw [WM_bld,WM_bld] at h
 exact h
theorem strW {H:List VObj} {y:Ho} {p:By} {L:List VObj} {lg:List (Nat×Nat)} (h0:p≠[]) :
  VC Tryz.prog 35 [.ptr (H.length + 2) 0] ⟨WM H y p L,lg⟩ (fun r M'=>M' = ⟨H ++ .obj (houseC y) :: .clm (p.length + 1) 1 :: .bld tBld tByte (H.length + 1) p :: L,lg⟩∧r = vs p):=by
 have h:=string_v (H:=WM H y p L) (i:=H.length + 2) (j:=H.length + 1) (l:=p) (lg:=lg) (by unfold WM; rw [hget]; rfl) (by unfold WM; rw [hget]; rfl) h0
 rw [WM_end] at h
 exact h
theorem sm_fit {l:List Int} (h:SmL l):FitL l:=fun n hn=>by have:=h n hn; omega
def writeT (y:Ho):By:=if houseErr y = 0 then writeS y else []
structure FinH (y:Ho):Prop where
 h:y.holds.length≤1000000
 d:y.doors.length≤1000000
 c:y.counts.length≤1000000
set_option maxHeartbeats 4000000 in
theorem pwrite_v (y:Ho) (M:Mem) (F:FinH y):VC Tryz.prog 9 [houseV y] M (fun r M'=>M' = M∧r = .tup [vs (writeT y),vi (houseErr y)]):=by
 refine VC_own' T_ok (f := 9) (fn:=Tryz.f9) (by kernel_rfl) rfl Tryz.ntmps9 (by rfl) (by rfl) ?_
 (repeat refine Ws ?_);refine We ?_;intro Kn hKn
 ((simp(maxSteps:=1000000)only[VL,VM,↓VG,reduceIte,reduceCtorEq,zA,zB,zC,zD,zE,zF,zG,zH,zI,zJ]); rw [hKn];clear hKn Kn;simp only [QV,reduceIte,reduceCtorEq,zF])
 (repeat refine Ws ?_);refine We ?_;intro Kn hKn
 simp(maxSteps:=1000000)only[VL,VM,↓VG,reduceIte,reduceCtorEq,zA,zB,zC,zD,zE,zF,zG,zH,zI,zJ]
 apply call_eq (f := 31) (fn:=Tryz.f31) (by kernel_rfl) (by rfl)
 ·exact check_v y _ F.h F.d F.c
 ((simp(maxSteps:=1000000)only[VL,VM,↓VG,reduceIte,reduceCtorEq,zA,zB,zC,zD,zE,zF,zG,zH,zI,zJ]); rw [hKn];clear hKn Kn;simp only [QV,reduceIte,reduceCtorEq,zF])
 (repeat refine Ws ?_);refine We ?_;intro Kn hKn
 by_cases h1:houseErr y = 0
 rotate_left
 ·have k1:(houseErr y = 0) = False:=eq_false h1
  ((simp(maxSteps:=1000000)only[VL,VM,↓VG,reduceIte,reduceCtorEq,zA,zB,zC,zD,zE,zF,zG,zH,zI,zJ,k1]); rw [hKn];clear hKn Kn;simp only [QV,reduceIte,reduceCtorEq,zF])
  (repeat refine Ws ?_);refine Wt ?_
  (repeat refine Ws ?_);refine We ?_;intro Kn hKn
  ((simp(maxSteps:=1000000)only[VL,VM,↓VG,reduceIte,reduceCtorEq,zA,zB,zC,zD,zE,zF,zG,zH,zI,zJ]); rw [hKn];clear hKn Kn;simp only [QV,reduceIte,reduceCtorEq,zF])
  (repeat refine Ws ?_)
  refine W_ret ?_
  try simp only [thenQ,blockQ]
  refine own_ret2t rfl ?_ ?_ (by rfl) (by rfl)
  ·simp only [get_cons,frz,vtup,zF,if_true,if_false,reduceIte]
   rw [show writeT y = [] from if_neg h1]
   rfl
  ·simp only [get_cons,frz,vtup,zF,if_true,if_false,reduceIte]
 have V:=houseErr_ok.1 h1
 have k1:(houseErr y = 0) = True:=eq_true h1
 have c1:=V.n1
 have c2:=V.d1
 have c3:=V.c1
 ((simp(maxSteps:=1000000)only[VL,VM,↓VG,reduceIte,reduceCtorEq,zA,zB,zC,zD,zE,zF,zG,zH,zI,zJ,k1]); rw [hKn];clear hKn Kn;simp only [QV,reduceIte,reduceCtorEq,zF])
 (repeat refine Ws ?_);refine Wf ?_
 (((repeat refine Ws ?_);refine W_skip ?_); simp only [QV,reduceIte,reduceCtorEq,zF])
 have fs:FitL (hoL y):=sm_fit (ho_sm V)
 have l0:=rowS_short (w:=wHouse) (ho_sm V)
 (repeat refine Ws ?_)
 refine W_allocB T_ok (tE:=tByte) t_build rfl (by decide) ?_
 refine W_eqM (M':=⟨WM M.H y [] [],M.lg⟩) (by simp [WM]) ?_
 simp only [List.length_append,List.length_singleton,Nat.add_assoc,Nat.reduceAdd]
 (repeat refine Ws ?_);refine We ?_;intro Kn hKn
 ((simp(maxSteps:=1000000)only[VL,VM,↓VG,reduceIte,reduceCtorEq,zA,zB,zC,zD,zE,zF,zG,zH,zI,zJ]); rw [hKn];clear hKn Kn;simp only [QV,reduceIte,reduceCtorEq,zF])
 (repeat refine Ws ?_);refine We ?_;intro Kn hKn
 simp(maxSteps:=1000000)only[VL,VM,↓VG,reduceIte,reduceCtorEq,zA,zB,zC,zD,zE,zF,zG,zH,zI,zJ,WM_y]
 apply callf_eq (f := 32) (fn:=Tryz.f32) (by kernel_rfl) (by rfl)
 ·exact prowW (w:=wHouse) (l:=hoL y) (by simp [wHouse]) (by simp [wHouse]) (by simp [hoL]) (by simp) fs
 ((simp(maxSteps:=1000000)only[VL,VM,↓VG,reduceIte,reduceCtorEq,zA,zB,zC,zD,zE,zF,zG,zH,zI,zJ]); rw [hKn];clear hKn Kn;simp only [QV,reduceIte,reduceCtorEq,zF])
 have l0':(rowS wHouse (hoL y)).length≤41:=Nat.le_trans l0 (by simp [wHouse,hoL])
 obtain ⟨p0,hp0⟩:∃ p,p = rowS wHouse (hoL y):=⟨_,rfl⟩
 have n0:p0≠[]:=by rw [hp0]; simp [rowS,wHouse]
 rw [← hp0] at l0' ⊢
 (repeat refine Ws ?_);refine We ?_;intro Kn hKn
 ((simp(maxSteps:=1000000)only[VL,VM,↓VG,reduceIte,reduceCtorEq,zA,zB,zC,zD,zE,zF,zG,zH,zI,zJ,WM_y]); rw [hKn];clear hKn Kn;simp only [QV,reduceIte,reduceCtorEq,zF])
 have lr0:∀ i,(hlS (y.holds.take i)).length≤12 * 4:=fun i=>by
  have:=byF_len (f:=fun n=>rowS wHall [n]) (k:=12) (l:=y.holds.take i) fun r hr=>by
   simpa [wHall] using rowS_short (w:=wHall) (hl_sm V (List.mem_of_mem_take hr))
  rw [List.length_take] at this
  unfold hlS
  omega
 ((repeat refine Ws ?_);refine W_block ?_; (repeat refine Ws ?_)); refine W_loopS (fun s:Nat×List VObj=>[(1,.ptr M.H.length 0),(5,.ptr (M.H.length + 2) 0),(6,.fn (.func 32) [] [.ptr (M.H.length + 2) 0]),(31,intsV y.holds),(32,vi y.holds.length),(33,vi s.1)]) (fun s=>⟨WM M.H y (p0++hlS (y.holds.take s.1)) s.2,M.lg⟩) (fun s=>y.holds.length - s.1) (fun s=>s.1≤y.holds.length) (0,[]) (Nat.zero_le _) ⟨rfl,rfl,rfl,rfl,rfl,rfl,trivial⟩ (by simp [hlS]) ?_
 rintro ⟨i,L0⟩ hi
 simp only at hi
 have k2 : -9223372036854775808≤(i:Int) + 1∧(i:Int) + 1 < 9223372036854775808:=by omega
 (repeat refine Ws ?_);refine We ?_;intro Kn hKn
 rcases Nat.lt_or_ge i y.holds.length with hlt | hge
 ·have k3:((i:Int) < (y.holds.length:Int)) = True:=eq_true (by omega)
  have hx:=map_at (f:=intP) (List.getElem?_eq_getElem hlt)
  have hmem:=List.getElem_mem hlt
  have key:hlS (y.holds.take (i + 1)) = _:=byF_take (f:=fun n=>rowS wHall [n]) hlt
  have ll:=lr0 i
  generalize y.holds[i] = x at hx hmem key
  have ek:(y.holds.take i).flatMap (fun n=>rowS wHall [n]) = hlS (y.holds.take i):=rfl
  rw [ek] at key
  generalize hlS (y.holds.take i) = pre at key ll ⊢
  have hp:(p0++pre).length≤1000000000:=by rw [List.length_append]; omega
  ((simp(maxSteps:=1000000)only[VL,VM,↓VG,reduceIte,reduceCtorEq,zA,zB,zC,zD,zE,zF,zG,zH,zI,zJ,k3]); rw [hKn];clear hKn Kn;simp only [QV,reduceIte,reduceCtorEq,zF])
  (repeat refine Ws ?_);refine Wt ?_
  (((repeat refine Ws ?_);refine W_skip ?_); simp only [QV,reduceIte,reduceCtorEq,zF])
  (repeat refine Ws ?_);refine W_block ?_
  (repeat refine Ws ?_);refine We ?_;intro Kn hKn
  ((simp(maxSteps:=1000000)only[VL,VM,↓VG,reduceIte,reduceCtorEq,zA,zB,zC,zD,zE,zF,zG,zH,zI,zJ,hx,WM_len,WM_app,WM_at,WM_set]); rw [hKn];clear hKn Kn;simp only [QV,reduceIte,reduceCtorEq,zF])
  (repeat refine Ws ?_);refine We ?_;intro Kn hKn
  simp(maxSteps:=1000000)only[VL,VM,↓VG,reduceIte,reduceCtorEq,zA,zB,zC,zD,zE,zF,zG,zH,zI,zJ,WM_len,WM_at]
  apply callf_eq (f := 32) (fn:=Tryz.f32) (by kernel_rfl) (by rfl)
  ·exact prowW (w:=wHall) (l:=[x]) (by simp [wHall]) (by simp [wHall]) (by simp) hp (sm_fit (hl_sm V hmem))
  ((simp(maxSteps:=1000000)only[VL,VM,↓VG,reduceIte,reduceCtorEq,zA,zB,zC,zD,zE,zF,zG,zH,zI,zJ]); rw [hKn];clear hKn Kn;simp only [QV,reduceIte,reduceCtorEq,zF])
  (repeat refine Ws ?_);refine We ?_;intro Kn hKn
  ((simp(maxSteps:=1000000)only[VL,VM,↓VG,reduceIte,reduceCtorEq,zA,zB,zC,zD,zE,zF,zG,zH,zI,zJ,k2]); rw [hKn];clear hKn Kn;simp only [QV,reduceIte,reduceCtorEq,zF])
  refine LoopK.mk (i + 1,L0) (by simp; omega) (by simp; omega) ⟨rfl,rfl,rfl,rfl,rfl,rfl,trivial⟩ ?_
  rw [key]; try simp
 have k3:((i:Int) < (y.holds.length:Int)) = False:=eq_false (by omega)
 obtain rfl:i = y.holds.length:=by omega
 ((simp(maxSteps:=1000000)only[VL,VM,↓VG,reduceIte,reduceCtorEq,zA,zB,zC,zD,zE,zF,zG,zH,zI,zJ,k3,List.take_length]); rw [hKn];clear hKn Kn;simp only [QV,reduceIte,reduceCtorEq,zF])
 (repeat refine Ws ?_);refine Wf ?_
 (((repeat refine Ws ?_);refine W_exit ?_); simp only [QV,reduceIte,reduceCtorEq,zF])
 have lq0:=lr0 y.holds.length
 rw [List.take_length] at lq0
 obtain ⟨p1,hp1⟩:∃ p,p = p0++hlS y.holds:=⟨_,rfl⟩
 have n1:p1≠[]:=by rw [hp1]; simp [n0]
 have m1:p1.length≤148:=by rw [hp1,List.length_append]; omega
 rw [← hp1]
 (repeat refine Ws ?_);refine We ?_;intro Kn hKn
 ((simp(maxSteps:=1000000)only[VL,VM,↓VG,reduceIte,reduceCtorEq,zA,zB,zC,zD,zE,zF,zG,zH,zI,zJ,WM_y]); rw [hKn];clear hKn Kn;simp only [QV,reduceIte,reduceCtorEq,zF])
 have lr1:∀ i,(drS (y.doors.take i)).length≤26 * 5:=fun i=>by
  have:=byF_len (f:=fun d=>rowS wDoor (doL d)) (k:=26) (l:=y.doors.take i) fun r hr=>by
   simpa [doL,wDoor] using rowS_short (w:=wDoor) (do_sm V (List.mem_of_mem_take hr))
  rw [List.length_take] at this
  unfold drS
  omega
 ((repeat refine Ws ?_);refine W_block ?_; (repeat refine Ws ?_)); refine W_loopS (fun s:Nat×List VObj=>[(1,.ptr M.H.length 0),(5,.ptr (M.H.length + 2) 0),(6,.fn (.func 32) [] [.ptr (M.H.length + 2) 0]),(43,dosV y.doors),(44,vi y.doors.length),(45,vi s.1)]) (fun s=>⟨WM M.H y (p1++drS (y.doors.take s.1)) s.2,M.lg⟩) (fun s=>y.doors.length - s.1) (fun s=>s.1≤y.doors.length) (0,L0) (Nat.zero_le _) ⟨rfl,rfl,rfl,rfl,rfl,rfl,trivial⟩ (by simp [drS]) ?_
 rintro ⟨i,L1⟩ hi
 simp only at hi
 have k2 : -9223372036854775808≤(i:Int) + 1∧(i:Int) + 1 < 9223372036854775808:=by omega
 (repeat refine Ws ?_);refine We ?_;intro Kn hKn
 rcases Nat.lt_or_ge i y.doors.length with hlt | hge
 ·have k3:((i:Int) < (y.doors.length:Int)) = True:=eq_true (by omega)
  have hx:=map_at (f:=doP) (List.getElem?_eq_getElem hlt)
  have hmem:=List.getElem_mem hlt
  have key:drS (y.doors.take (i + 1)) = _:=byF_take (f:=fun d=>rowS wDoor (doL d)) hlt
  have ll:=lr1 i
  generalize y.doors[i] = x at hx hmem key
  have ek:(y.doors.take i).flatMap (fun d=>rowS wDoor (doL d)) = drS (y.doors.take i):=rfl
  rw [ek] at key
  generalize drS (y.doors.take i) = pre at key ll ⊢
  have hp:(p1++pre).length≤1000000000:=by rw [List.length_append]; omega
  ((simp(maxSteps:=1000000)only[VL,VM,↓VG,reduceIte,reduceCtorEq,zA,zB,zC,zD,zE,zF,zG,zH,zI,zJ,k3]); rw [hKn];clear hKn Kn;simp only [QV,reduceIte,reduceCtorEq,zF])
  (repeat refine Ws ?_);refine Wt ?_
  (((repeat refine Ws ?_);refine W_skip ?_); simp only [QV,reduceIte,reduceCtorEq,zF])
  (repeat refine Ws ?_);refine W_block ?_
  (repeat refine Ws ?_);refine We ?_;intro Kn hKn
  ((simp(maxSteps:=1000000)only[VL,VM,↓VG,reduceIte,reduceCtorEq,zA,zB,zC,zD,zE,zF,zG,zH,zI,zJ,hx,WM_len,WM_app,WM_at,WM_set]); rw [hKn];clear hKn Kn;simp only [QV,reduceIte,reduceCtorEq,zF])
  (repeat refine Ws ?_);refine We ?_;intro Kn hKn
  simp(maxSteps:=1000000)only[VL,VM,↓VG,reduceIte,reduceCtorEq,zA,zB,zC,zD,zE,zF,zG,zH,zI,zJ,WM_len,WM_at]
  apply callf_eq (f := 32) (fn:=Tryz.f32) (by kernel_rfl) (by rfl)
  ·exact prowW (w:=wDoor) (l:=doL x) (by simp [wDoor]) (by simp [wDoor]) (by simp [doL]) hp (sm_fit (do_sm V hmem))
  ((simp(maxSteps:=1000000)only[VL,VM,↓VG,reduceIte,reduceCtorEq,zA,zB,zC,zD,zE,zF,zG,zH,zI,zJ]); rw [hKn];clear hKn Kn;simp only [QV,reduceIte,reduceCtorEq,zF])
  (repeat refine Ws ?_);refine We ?_;intro Kn hKn
  ((simp(maxSteps:=1000000)only[VL,VM,↓VG,reduceIte,reduceCtorEq,zA,zB,zC,zD,zE,zF,zG,zH,zI,zJ,k2]); rw [hKn];clear hKn Kn;simp only [QV,reduceIte,reduceCtorEq,zF])
  refine LoopK.mk (i + 1,L1++[.obj [vi x.a,vi x.b,vi x.flow]]) (by simp; omega) (by simp; omega) ⟨rfl,rfl,rfl,rfl,rfl,rfl,trivial⟩ ?_
  rw [key]; try simp
 have k3:((i:Int) < (y.doors.length:Int)) = False:=eq_false (by omega)
 obtain rfl:i = y.doors.length:=by omega
 ((simp(maxSteps:=1000000)only[VL,VM,↓VG,reduceIte,reduceCtorEq,zA,zB,zC,zD,zE,zF,zG,zH,zI,zJ,k3,List.take_length]); rw [hKn];clear hKn Kn;simp only [QV,reduceIte,reduceCtorEq,zF])
 (repeat refine Ws ?_);refine Wf ?_
 (((repeat refine Ws ?_);refine W_exit ?_); simp only [QV,reduceIte,reduceCtorEq,zF])
 have lq1:=lr1 y.doors.length
 rw [List.take_length] at lq1
 obtain ⟨p2,hp2⟩:∃ p,p = p1++drS y.doors:=⟨_,rfl⟩
 have n2:p2≠[]:=by rw [hp2]; simp [n1]
 have m2:p2.length≤278:=by rw [hp2,List.length_append]; omega
 rw [← hp2]
 (repeat refine Ws ?_);refine We ?_;intro Kn hKn
 ((simp(maxSteps:=1000000)only[VL,VM,↓VG,reduceIte,reduceCtorEq,zA,zB,zC,zD,zE,zF,zG,zH,zI,zJ,WM_y]); rw [hKn];clear hKn Kn;simp only [QV,reduceIte,reduceCtorEq,zF])
 have lr2:∀ i,(ctS (y.counts.take i)).length≤48 * 24:=fun i=>by
  have:=byF_len (f:=fun c=>rowS wCount (coL c)) (k:=48) (l:=y.counts.take i) fun r hr=>by
   simpa [coL,wCount] using rowS_short (w:=wCount) (co_sm V (List.mem_of_mem_take hr))
  rw [List.length_take] at this
  unfold ctS
  omega
 ((repeat refine Ws ?_);refine W_block ?_; (repeat refine Ws ?_)); refine W_loopS (fun s:Nat×List VObj=>[(1,.ptr M.H.length 0),(5,.ptr (M.H.length + 2) 0),(6,.fn (.func 32) [] [.ptr (M.H.length + 2) 0]),(60,cosV y.counts),(61,vi y.counts.length),(62,vi s.1)]) (fun s=>⟨WM M.H y (p2++ctS (y.counts.take s.1)) s.2,M.lg⟩) (fun s=>y.counts.length - s.1) (fun s=>s.1≤y.counts.length) (0,L1) (Nat.zero_le _) ⟨rfl,rfl,rfl,rfl,rfl,rfl,trivial⟩ (by simp [ctS]) ?_
 rintro ⟨i,L2⟩ hi
 simp only at hi
 have k2 : -9223372036854775808≤(i:Int) + 1∧(i:Int) + 1 < 9223372036854775808:=by omega
 (repeat refine Ws ?_);refine We ?_;intro Kn hKn
 rcases Nat.lt_or_ge i y.counts.length with hlt | hge
 ·have k3:((i:Int) < (y.counts.length:Int)) = True:=eq_true (by omega)
  have hx:=map_at (f:=coP) (List.getElem?_eq_getElem hlt)
  have hmem:=List.getElem_mem hlt
  have key:ctS (y.counts.take (i + 1)) = _:=byF_take (f:=fun c=>rowS wCount (coL c)) hlt
  have ll:=lr2 i
  generalize y.counts[i] = x at hx hmem key
  have ek:(y.counts.take i).flatMap (fun c=>rowS wCount (coL c)) = ctS (y.counts.take i):=rfl
  rw [ek] at key
  generalize ctS (y.counts.take i) = pre at key ll ⊢
  have hp:(p2++pre).length≤1000000000:=by rw [List.length_append]; omega
  ((simp(maxSteps:=1000000)only[VL,VM,↓VG,reduceIte,reduceCtorEq,zA,zB,zC,zD,zE,zF,zG,zH,zI,zJ,k3]); rw [hKn];clear hKn Kn;simp only [QV,reduceIte,reduceCtorEq,zF])
  (repeat refine Ws ?_);refine Wt ?_
  (((repeat refine Ws ?_);refine W_skip ?_); simp only [QV,reduceIte,reduceCtorEq,zF])
  (repeat refine Ws ?_);refine W_block ?_
  (repeat refine Ws ?_);refine We ?_;intro Kn hKn
  ((simp(maxSteps:=1000000)only[VL,VM,↓VG,reduceIte,reduceCtorEq,zA,zB,zC,zD,zE,zF,zG,zH,zI,zJ,hx,WM_len,WM_app,WM_at,WM_set]); rw [hKn];clear hKn Kn;simp only [QV,reduceIte,reduceCtorEq,zF])
  (repeat refine Ws ?_);refine We ?_;intro Kn hKn
  simp(maxSteps:=1000000)only[VL,VM,↓VG,reduceIte,reduceCtorEq,zA,zB,zC,zD,zE,zF,zG,zH,zI,zJ,WM_len,WM_at]
  apply callf_eq (f := 32) (fn:=Tryz.f32) (by kernel_rfl) (by rfl)
  ·exact prowW (w:=wCount) (l:=coL x) (by simp [wCount]) (by simp [wCount]) (by simp [coL]) hp (sm_fit (co_sm V hmem))
  ((simp(maxSteps:=1000000)only[VL,VM,↓VG,reduceIte,reduceCtorEq,zA,zB,zC,zD,zE,zF,zG,zH,zI,zJ]); rw [hKn];clear hKn Kn;simp only [QV,reduceIte,reduceCtorEq,zF])
  (repeat refine Ws ?_);refine We ?_;intro Kn hKn
  ((simp(maxSteps:=1000000)only[VL,VM,↓VG,reduceIte,reduceCtorEq,zA,zB,zC,zD,zE,zF,zG,zH,zI,zJ,k2]); rw [hKn];clear hKn Kn;simp only [QV,reduceIte,reduceCtorEq,zF])
  refine LoopK.mk (i + 1,L2++[.obj [vi x.tick,vi x.door,vi x.i.lo,vi x.i.hi,vi x.o.lo,vi x.o.hi]]) (by simp; omega) (by simp; omega) ⟨rfl,rfl,rfl,rfl,rfl,rfl,trivial⟩ ?_
  rw [key]; try simp
 have k3:((i:Int) < (y.counts.length:Int)) = False:=eq_false (by omega)
 obtain rfl:i = y.counts.length:=by omega
 ((simp(maxSteps:=1000000)only[VL,VM,↓VG,reduceIte,reduceCtorEq,zA,zB,zC,zD,zE,zF,zG,zH,zI,zJ,k3,List.take_length]); rw [hKn];clear hKn Kn;simp only [QV,reduceIte,reduceCtorEq,zF])
 (repeat refine Ws ?_);refine Wf ?_
 (((repeat refine Ws ?_);refine W_exit ?_); simp only [QV,reduceIte,reduceCtorEq,zF])
 have lq2:=lr2 y.counts.length
 rw [List.take_length] at lq2
 obtain ⟨p3,hp3⟩:∃ p,p = p2++ctS y.counts:=⟨_,rfl⟩
 have n3:p3≠[]:=by rw [hp3]; simp [n2]
 have m3:p3.length≤1430:=by rw [hp3,List.length_append]; omega
 rw [← hp3]
 have fe:FitL [(y.counts.length:Int)]:=sm_fit (end_sm V)
 have hp:p3.length≤1000000000:=by omega
 (repeat refine Ws ?_);refine We ?_;intro Kn hKn
 simp(maxSteps:=1000000)only[VL,VM,↓VG,reduceIte,reduceCtorEq,zA,zB,zC,zD,zE,zF,zG,zH,zI,zJ,WM_y]
 apply callf_eq (f := 32) (fn:=Tryz.f32) (by kernel_rfl) (by rfl)
 ·exact prowW (w:=wEnd) (l:=[(y.counts.length:Int)]) (by simp [wEnd]) (by simp [wEnd]) (by simp) hp fe
 ((simp(maxSteps:=1000000)only[VL,VM,↓VG,reduceIte,reduceCtorEq,zA,zB,zC,zD,zE,zF,zG,zH,zI,zJ]); rw [hKn];clear hKn Kn;simp only [QV,reduceIte,reduceCtorEq,zF])
 (repeat refine Ws ?_);refine We ?_;intro Kn hKn
 simp(maxSteps:=1000000)only[VL,VM,↓VG,reduceIte,reduceCtorEq,zA,zB,zC,zD,zE,zF,zG,zH,zI,zJ]
 apply call_eq (f := 35) (fn:=Tryz.f35) (by kernel_rfl) (by rfl)
 ·exact strW (by simp [rowS])
 ((simp(maxSteps:=1000000)only[VL,VM,↓VG,reduceIte,reduceCtorEq,zA,zB,zC,zD,zE,zF,zG,zH,zI,zJ]); rw [hKn];clear hKn Kn;simp only [QV,reduceIte,reduceCtorEq,zF])
 (repeat refine Ws ?_)
 refine W_ret ?_
 try simp only [thenQ,blockQ]
 refine own_ret2t rfl ?_ ?_ (by rfl) (by rfl)
 ·simp only [get_cons,frz,vtup,zF,if_true,if_false,reduceIte]
  rw [show writeT y = writeS y from if_pos h1,writeS,← hp0,← hp1,← hp2,← hp3]
  try simp [frz]
 ·simp only [get_cons,frz,vtup,zF,if_true,if_false,reduceIte]
  rw [h1]
end Go.Proofs.YtekhddlngbppkaaGreatDoor.Vm

/- A weaker view of an object's cell. (Vm) -/
namespace Go.Proofs.YtekhddlngbppkaaGreatDoor.Vm
open Go Go.Proofs
section
variable {P:Program} {T:Tab} {cx:Cx} {e:Env} {M:Mem} {D:List Nat} {Q:PQ} {c:Code}
theorem W_nilobj {id off k k0:Nat} {cs:List VV} (ho:M.H[id]? = some (.obj cs)) (hc:cs[off]? = some (.sf k0 [])) (h:WCode P cx c e ⟨M.H.set id (.obj (cs.set off (.p (.sl k [])))),M.lg⟩ D Q):WCode P cx c e M D Q:=by
 intro G w K a hs
 have i1:=hs.inv
 have hil:=(List.getElem?_eq_some_iff.1 ho).1
 have hs2:∀ j x,(M.H.set id (.obj (cs.set off (.p (.sl k [])))))[j]? = some x→(j = id∧x = .obj (cs.set off (.p (.sl k []))))∨(j≠id∧M.H[j]? = some x):=fun j x hx=>by
  rcases set_get hx with ⟨rfl,rfl,_⟩ | ⟨h1,h2⟩
  ·exact .inl ⟨rfl,rfl⟩
  ·exact .inr ⟨h1,h2⟩
 have hE:Ext w K M.H w K (M.H.set id (.obj (cs.set off (.p (.sl k []))))):=by
  refine ⟨Nat.le_refl _,Szp.refl _,fun b o _ him i ob hi hb => ?_,fun _ _ _ _=>rfl,fun i o hi => ?_⟩
  ·rcases hs2 i ob hi with ⟨rfl,rfl⟩ | ⟨_,h2⟩
   ·rcases him i _ ho hb with e2 | ⟨m,k',e2,_⟩
    ·exact e2.elim
    ·cases e2
   ·exact him i ob h2 hb
  ·by_cases h1:i = id
   ·subst h1
    rw [ho] at hi
    cases hi
    exact ⟨.obj (cs.set off (.p (.sl k []))),by simp [hil],fun _ _ e=>VObj.noConfusion e,rfl⟩
   ·refine ⟨o,by rw [List.getElem?_set_ne (Ne.symm h1)]; exact hi,?_⟩
    exact objLe_same rfl fun b _=>rfl
 have hI2:Inv G w K { H:=M.H.set id (.obj (cs.set off (.p (.sl k [])))),lg:=M.lg }:=by
  refine ⟨i1.os,i1.tape,i1.output,i1.size,i1.gB,i1.old,inj_set i1 (by simp) (gone_set ho (fun e=>by cases e)),fun i b hi=>i1.blk i b (by simpa using hi),fun i o hi => ?_,fun i o hi cc hcc r hr => ?_,fun en hen => ?_,fun i L hi => ?_⟩
  ·rcases hs2 i o hi with ⟨rfl,rfl⟩ | ⟨h1,h2⟩
   ·intro b hb
    obtain ⟨vs,t,q1,q2,q3⟩:=i1.obj i _ ho b hb
    refine ⟨vs,t,q1,by simpa using q2,fun j v cv hv hcv => ?_⟩
    rw [List.getElem?_set] at hcv
    by_cases hj:off = j
    ·subst hj
     have hlt:=(List.getElem?_eq_some_iff.1 hc).1
     rw [if_pos rfl,if_pos hlt] at hcv
     cases hcv
     obtain ⟨r1,r2⟩:=q3 off v _ hv hc
     refine ⟨?_,r2⟩
     cases r1 with
     | sf A _ _ h0=>exact .p _ _ (.sl A 0 k 0 0 [] (fun _ _=>undef) (Nat.le_refl _) (by simp [maxLen]) (fun x hx=>by cases hx) (fun hx=>absurd rfl hx) (fun i x j u hx=>by simp at hx) (fun i x j u hx=>by simp at hx) (fun i x j u hx=>by simp at hx))
    ·rw [if_neg hj] at hcv
     obtain ⟨r1,r2⟩:=q3 j v cv hv hcv
     exact ⟨r1.ext hE (i1.content ho cv (by simp only [contents]; exact List.mem_of_getElem? hcv)),r2⟩
   ·exact (i1.obj i o h2).ext hE (fun _ _=>rfl) (i1.content h2)
  ·simp only [List.length_set]
   rcases hs2 i o hi with ⟨rfl,rfl⟩ | ⟨h1,h2⟩
   ·simp only [contents] at hcc
    rcases List.mem_or_eq_of_mem_set hcc with hm | rfl
    ·exact i1.cl i _ ho cc (by simp only [contents]; exact hm) r hr
    ·simp [refs] at hr
   ·exact i1.cl i o h2 cc hcc r hr
  ·simp only [List.length_set]
   exact i1.lg en hen
  ·rcases hs2 i _ hi with ⟨rfl,e2⟩ | ⟨_,h2⟩
   ·cases e2
   ·exact i1.lpd i L h2
 have hs3:StOk cx G w K { H:=M.H.set id (.obj (cs.set off (.p (.sl k [])))),lg:=M.lg } a e D:=⟨hs.fr.ext (M':={ H:=M.H.set id (.obj (cs.set off (.p (.sl k [])))),lg:=M.lg }) hE,df_ext (M':={ H:=M.H.set id (.obj (cs.set off (.p (.sl k [])))),lg:=M.lg }) hE hs.df,hI2,(rd_ext (M':={ H:=M.H.set id (.obj (cs.set off (.p (.sl k [])))),lg:=M.lg }) hE hs.rd).1⟩
 have h2:=h G w _ a hs3
 exact wpIn_mono h2 fun ex a' w' ⟨e',M',K',D',q1,q2,q3,q4⟩=>⟨e',M',K',D',q1,q2,q3,hE.trans q4⟩
end
end Go.Proofs.YtekhddlngbppkaaGreatDoor.Vm
