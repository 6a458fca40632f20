/- A part of the proofs about the doors; no condition. -/
import Derived.Test.YtekhddlngbppkaaGreatDoorB33
import Derived.Test.YtekhddlngbppkaaGreatDoorB35
set_option linter.unusedVariables false
set_option linter.unusedSimpArgs false
open Int renaming reduceLE → zA, reduceLT → zB, reduceToNat → zC, reduceNeg → zD
open Nat renaming reduceLT → zE, reduceEqDiff → zF, reduceAdd → zG, reduceSub → zH, reduceMul → zI, reduceLeDiff → zJ
/- The program's Read, on values. (Vm) -/
namespace Go.Proofs.YtekhddlngbppkaaGreatDoor.Vm
open Go Go.Proofs
theorem lit45:(⟨#[45]⟩:ByteArray) = tx [45]:=rfl
theorem v_eqNil (b:Bool):vbinK T .eql 82 (.p (.ifc b)) (.p (.ifc true)) (.const .nilIface) = some (vb b):=by
 simp only [vbinK,t_error]
theorem eql_bool (a b:Bool):vbin T .eql 4 (vb a) (vb b) = some (vb (a == b)):=by
 cases a <;> cases b <;> simp [vbin,t_bool]
theorem litNil:(⟨#[]⟩:ByteArray) = tx []:=rfl
theorem v_neTT:vbin T .neq 4 (vb true) (vb true) = some (vb false):=by simp [vbin,t_bool]
theorem v_neTF:vbin T .neq 4 (vb true) (vb false) = some (vb true):=by simp [vbin,t_bool]
theorem v_neFT:vbin T .neq 4 (vb false) (vb true) = some (vb true):=by simp [vbin,t_bool]
theorem v_neFF:vbin T .neq 4 (vb false) (vb false) = some (vb false):=by simp [vbin,t_bool]
theorem W_blockN {P:Program} {cx:Cx} {e:Env} {M:Mem} {D:List Nat} {Q:PQ} {id:Nat} {c:Code} {R:Env→Mem→Prop} (h:WCode P cx c e M D (fun ex e' M' D'=>ex = .normal∧D' = D∧R e' M')) (hR:∀ e' M',R e' M'→Q .normal e' M' D):WCode P cx (.block id c) e M D Q :=
 W_block (h.mono fun ex e' M' D' ⟨h1,h2,h3⟩=>by
  subst h1 h2
  exact hR e' M' h3)
structure RsS where
 i:Nat
 y:Ho
 b:Bool
 L:List VObj
abbrev rsReadV (x:Ho×Int×Int):VV:=.tup [houseV x.1,vi x.2.1,vi x.2.2]
theorem own_retR {f:Nat} {fn:Func} {M:Mem} {L:List VObj} {X:List (Nat×Nat)} {e:Env} {y:Ho} {a b:Int} (h1:fn.results.toList = [.cell 2 28,.tmp 3,.tmp 4]) (hX:∀ e∈X,M.H.length≤e.1) (ho:L[0]? = some (.obj (houseC y))) (h2:get e 2 = .ptr M.H.length 0) (h3:get e 3 = vi a) (h4:get e 4 = vi b) :
  ownQ T f fn M (fun r M'=>M' = M∧r = rsReadV (y,a,b)) .ret e ⟨M.H++L,M.lg++X⟩ []:=by
 have hv:vresL T e ⟨M.H++L,M.lg++X⟩ fn.results.toList = some [houseV y,vi a,vi b]:=by
  rw [h1]
  simp only [vresL,h2,h3,h4,vload,t_house]
  rw [show (M.H++L)[M.H.length]? = some (.obj (houseC y)) by rw [List.getElem?_append_right (Nat.le_refl _),Nat.sub_self]; exact ho]
  rfl
 refine ⟨.inr rfl,rfl,⟨X,rfl,hX⟩,M.H,L,rfl,rfl,_,hv,_,rfl,?_,rfl,?_⟩
 ·intro x hx
  simp [vtup,frz,frzL,refs,refsL] at hx
 ·simp [vtup,frz,frzL]
abbrev z0:List VV:=[.sf 0 [],.sf 0 [],vi 0,vi 0,vi 0,.sf 0 []]
section
variable {P:Program} {cx:Cx} {e:Env} {D:List Nat} {Q:PQ} {c:Code}
theorem W_nil3 {H L:List VObj} {lg:List (Nat×Nat)} (h:WCode P cx c e ⟨H ++ .obj (houseC y0) :: L,lg⟩ D Q):WCode P cx c e ⟨H ++ .obj z0 :: L,lg⟩ D Q:=by
 refine W_nilobj (id:=H.length) (off:=0) (k:=1) (k0:=0) (cs:=z0) (by simp) rfl ?_
 refine W_nilobj (id:=H.length) (off:=1) (k:=3) (k0:=0) (cs:=[.p (.sl 1 []),.sf 0 [],vi 0,vi 0,vi 0,.sf 0 []]) (by simp) rfl ?_
 refine W_nilobj (id:=H.length) (off:=5) (k:=6) (k0:=0) (cs:=[.p (.sl 1 []),.p (.sl 3 []),vi 0,vi 0,vi 0,.sf 0 []]) (by simp) rfl ?_
 refine W_eqM (M':=⟨H ++ .obj (houseC y0) :: L,lg⟩) (by simp [y0]) h
theorem W_ghost3 {H:List VObj} {lg:List (Nat×Nat)} (h:WCode P cx c e ⟨PMx H y0 [],lg++LG3 H.length⟩ D Q):WCode P cx c e ⟨H++[.obj z0],lg⟩ D Q:=by
 refine W_ghost (id:=H.length) (off:=0) (k:=1) (k0:=0) (cs:=z0) (by simp) rfl ?_
 refine W_ghost (id:=H.length) (off:=1) (k:=3) (k0:=0) (cs:=[.so (H.length + 1) 1 [],.sf 0 [],vi 0,vi 0,vi 0,.sf 0 []]) (by simp) rfl ?_
 refine W_ghost (id:=H.length) (off:=5) (k:=6) (k0:=0) (cs:=[.so (H.length + 1) 1 [],.so (H.length + 2) 3 [],vi 0,vi 0,vi 0,.sf 0 []]) (by simp) rfl ?_
 refine W_eqM (M':=⟨PMx H y0 [],lg++LG3 H.length⟩) (by simp [PMc,y0]) h
end
set_option maxRecDepth 8000 in
set_option maxHeartbeats 4000000 in
theorem pread_v (s:By) (M:Mem) (hs:s.length≤9223372036854775807):VC Tryz.prog 12 [vs s] M (fun r M'=>M' = M∧r = rsReadV (rsRead s)):=by
 refine VC_own' T_ok (f := 12) (fn:=Tryz.f12) (by kernel_rfl) rfl Tryz.ntmps12 (by rfl) (by rfl) ?_
 (repeat refine Ws ?_);refine We ?_;intro Kn hKn
 ((simp(maxSteps:=1000000)only[VL,VM,↓VG,reduceIte,reduceCtorEq,zA,zB,zC,zD,zE,zF,zG,zH,zI,zJ]); rw [hKn];clear hKn Kn;simp only [QV,reduceIte,reduceCtorEq,zF])
 (repeat refine Ws ?_);refine We ?_;intro Kn hKn
 rcases Nat.lt_or_ge 2000 s.length with h15 | h15
 ·have k1:((2000:Int) < (s.length:Int)) = True:=eq_true (by omega)
  ((simp(maxSteps:=1000000)only[VL,VM,↓VG,reduceIte,reduceCtorEq,zA,zB,zC,zD,zE,zF,zG,zH,zI,zJ,tx_size,k1]); rw [hKn];clear hKn Kn;simp only [QV,reduceIte,reduceCtorEq,zF])
  (repeat refine Ws ?_);refine Wt ?_
  (repeat refine Ws ?_);refine We ?_;intro Kn hKn
  ((simp(maxSteps:=1000000)only[VL,VM,↓VG,reduceIte,reduceCtorEq,zA,zB,zC,zD,zE,zF,zG,zH,zI,zJ]); rw [hKn];clear hKn Kn;simp only [QV,reduceIte,reduceCtorEq,zF])
  rw [show rsRead s = (y0,0,10) by unfold rsRead; rw [if_pos h15]]
  refine W_nil3 ?_
  refine W_eqM (M':=⟨M.H++[.obj (houseC y0)],M.lg++[]⟩) (by simp) ?_
  (repeat refine Ws ?_)
  refine W_ret ?_
  try simp only [thenQ,blockQ]
  refine own_retR rfl (by simp) rfl rfl rfl rfl
 have k1:((2000:Int) < (s.length:Int)) = False:=eq_false (by omega)
 ((simp(maxSteps:=1000000)only[VL,VM,↓VG,reduceIte,reduceCtorEq,zA,zB,zC,zD,zE,zF,zG,zH,zI,zJ,tx_size,k1]); rw [hKn];clear hKn Kn;simp only [QV,reduceIte,reduceCtorEq,zF])
 (repeat refine Ws ?_);refine Wf ?_
 (((repeat refine Ws ?_);refine W_skip ?_); simp only [QV,reduceIte,reduceCtorEq,zF])
 have hlen:=cutL_len 10 s
 have hpos:=cutL_pos 10 s
 have hpart:=cutL_part 10 s
 (repeat refine Ws ?_);refine We ?_;intro Kn hKn
 simp(maxSteps:=1000000)only[VL,VM,↓VG,reduceIte,reduceCtorEq,zA,zB,zC,zD,zE,zF,zG,zH,zI,zJ,lit10]
 apply call_eq (f := 38) (fn:=Tryz.f38) (by kernel_rfl) (by rfl)
 ·exact split_v (l:=s) (c:=10) (by omega) _
 ((simp(maxSteps:=1000000)only[VL,VM,↓VG,reduceIte,reduceCtorEq,zA,zB,zC,zD,zE,zF,zG,zH,zI,zJ]); rw [hKn];clear hKn Kn;simp only [QV,reduceIte,reduceCtorEq,zF])
 have hread:rsRead s = match rsRun 0 (y0,false) ((cutL 10 s).take ((cutL 10 s).length - 1)) with
  | .inl i=>(y0,(i:Int) + 1,2)
  | .inr st=>rsEnd (cutL 10 s) st:=by
  unfold rsRead
  rw [if_neg (by omega)]
  rfl
 generalize cutL 10 s = rows at hlen hpos hpart hread ⊢
 have k2 : -9223372036854775808≤(rows.length:Int) - 1∧(rows.length:Int) - 1 < 9223372036854775808:=by omega
 have hidx:((rows.length:Int) - 1).toNat = rows.length - 1:=by omega
 have hge0:(0≤(rows.length:Int) - 1) = True:=eq_true (by omega)
 (repeat refine Ws ?_);refine We ?_;intro Kn hKn
 ((simp(maxSteps:=1000000)only[VL,VM,↓VG,reduceIte,reduceCtorEq,zA,zB,zC,zD,zE,zF,zG,zH,zI,zJ,strs_len,k2]); rw [hKn];clear hKn Kn;simp only [QV,reduceIte,reduceCtorEq,zF])
 (repeat refine Ws ?_)
 refine W_ghost3 ?_
 (repeat refine Ws ?_);refine We ?_;intro Kn hKn
 ((simp(maxSteps:=1000000)only[VL,VM,↓VG,reduceIte,reduceCtorEq,zA,zB,zC,zD,zE,zF,zG,zH,zI,zJ]); rw [hKn];clear hKn Kn;simp only [QV,reduceIte,reduceCtorEq,zF])
 (repeat refine Ws ?_);refine We ?_;intro Kn hKn
 have k5:(rows.length - 1≤rows.length) = True:=eq_true (by omega)
 have hrl:(rows.take (rows.length - 1)).length = rows.length - 1:=by rw [List.length_take]; omega
 ((simp(maxSteps:=1000000)only[VL,VM,↓VG,reduceIte,reduceCtorEq,zA,zB,zC,zD,zE,zF,zG,zH,zI,zJ,strs_len,hidx,hge0,k5,decide_true,strs_take,hrl]); rw [hKn];clear hKn Kn;simp only [QV,reduceIte,reduceCtorEq,zF])
 have hrat:∀ i,i < rows.length - 1→(rows.take (rows.length - 1))[i]? = rows[i]?:=fun i hi=>by rw [List.getElem?_take,if_pos hi]
 generalize hrs:rows.take (rows.length - 1) = rs at hrl hrat ⊢
 ((repeat refine Ws ?_);refine W_block ?_; (repeat refine Ws ?_)); refine W_loopS (fun z:RsS=>[(2,.ptr M.H.length 0),(5,strsW rows),(6,vi ((rows.length:Int) - 1)),(7,vb z.b),(29,strsW rs),(30,vi ((rows.length - 1:Nat):Int)),(31,vi z.i)]) (fun z=>⟨PMx M.H z.y z.L,M.lg++LG3 M.H.length⟩) (fun z=>rows.length - z.i) (fun z=>z.i≤rows.length - 1∧rsRun 0 (y0,false) (rows.take z.i) = .inr (z.y,z.b)∧RsOk z.i z.y) ⟨0,y0,false,[]⟩ ⟨Nat.zero_le _,rfl,⟨Nat.le_refl _,Nat.le_refl _,Nat.le_refl _⟩⟩ ⟨rfl,rfl,rfl,rfl,rfl,rfl,rfl,trivial⟩ rfl ?_
 rintro ⟨i,y,b,L⟩ ⟨hi,hrun,hok⟩
 simp only at hi hrun hok
 have k3 : -9223372036854775808≤(i:Int) + 1∧(i:Int) + 1 < 9223372036854775808:=by omega
 rcases Nat.lt_or_ge i (rows.length - 1) with hlt | hge
 rotate_left
 ·obtain rfl:i = rows.length - 1:=by omega
  have hres0:rsRead s = rsEnd rows (y,b):=by rw [hread,hrun]
  have k4:(((rows.length - 1:Nat):Int) < ((rows.length - 1:Nat):Int)) = False:=eq_false (by omega)
  have hlt2:rows.length - 1 < rows.length:=by omega
  have hx:=strs_at (List.getElem?_eq_getElem hlt2)
  have hlast:rows.getD (rows.length - 1) [] = rows[rows.length - 1]:=by rw [List.getD_eq_getElem?_getD,List.getElem?_eq_getElem hlt2]; rfl
  have k6 : -9223372036854775808≤(rows.length:Int) - 1 + 1∧(rows.length:Int) - 1 + 1 < 9223372036854775808:=by omega
  have q6:vbin T .add 3 (vi ((rows.length:Int) - 1)) (vi 1) = some (vi rows.length):=by
   rw [v_add T 3 _ _ k6]
   congr 3
   omega
  generalize rows[rows.length - 1] = last at hx hlast
  (repeat refine Ws ?_);refine We ?_;intro Kn hKn
  ((simp(maxSteps:=1000000)only[VL,VM,↓VG,reduceIte,reduceCtorEq,zA,zB,zC,zD,zE,zF,zG,zH,zI,zJ,k4]); rw [hKn];clear hKn Kn;simp only [QV,reduceIte,reduceCtorEq,zF])
  (repeat refine Ws ?_);refine Wf ?_
  (((repeat refine Ws ?_);refine W_exit ?_); simp only [QV,reduceIte,reduceCtorEq,zF])
  (repeat refine Ws ?_);refine We ?_;intro Kn hKn
  cases b with
  | false =>
   have hres:rsRead s = (y0,(rows.length:Int),2):=by
    rw [hres0]
    unfold rsEnd
    rw [if_pos (.inl rfl)]
   ((simp(maxSteps:=1000000)only[VL,VM,↓VG,reduceIte,reduceCtorEq,zA,zB,zC,zD,zE,zF,zG,zH,zI,zJ]); rw [hKn];clear hKn Kn;simp only [QV,reduceIte,reduceCtorEq,zF])
   (repeat refine Ws ?_);refine Wt ?_
   (repeat refine Ws ?_);refine We ?_;intro Kn hKn
   ((simp(maxSteps:=1000000)only[VL,VM,↓VG,reduceIte,reduceCtorEq,zA,zB,zC,zD,zE,zF,zG,zH,zI,zJ,q6,PM_0,PM_s0]); rw [hKn];clear hKn Kn;simp only [QV,reduceIte,reduceCtorEq,zF])
   rw [hres]
   refine W_nil3 ?_
   (repeat refine Ws ?_)
   refine W_ret ?_
   try simp only [thenQ,blockQ]
   refine own_retR rfl (by simp) rfl rfl rfl rfl
  | true =>
   by_cases hl:last = []
   rotate_left
   ·have k5:(last = []) = False:=eq_false hl
    have hres:rsRead s = (y0,(rows.length:Int),2):=by
     rw [hres0]
     unfold rsEnd
     rw [if_pos (.inr (by rw [hlast]; exact hl))]
    ((simp(maxSteps:=1000000)only[VL,VM,↓VG,reduceIte,reduceCtorEq,zA,zB,zC,zD,zE,zF,zG,zH,zI,zJ,hidx,hge0,hx,litNil,v_neS,k5]); rw [hKn];clear hKn Kn;simp only [QV,reduceIte,reduceCtorEq,zF])
    (repeat refine Ws ?_);refine Wt ?_
    (repeat refine Ws ?_);refine We ?_;intro Kn hKn
    ((simp(maxSteps:=1000000)only[VL,VM,↓VG,reduceIte,reduceCtorEq,zA,zB,zC,zD,zE,zF,zG,zH,zI,zJ,q6,PM_0,PM_s0]); rw [hKn];clear hKn Kn;simp only [QV,reduceIte,reduceCtorEq,zF])
    rw [hres]
    refine W_nil3 ?_
    (repeat refine Ws ?_)
    refine W_ret ?_
    try simp only [thenQ,blockQ]
    refine own_retR rfl (by simp) rfl rfl rfl rfl
   have k5:(last = []) = True:=eq_true hl
   ((simp(maxSteps:=1000000)only[VL,VM,↓VG,reduceIte,reduceCtorEq,zA,zB,zC,zD,zE,zF,zG,zH,zI,zJ,hidx,hge0,hx,litNil,v_neS,k5]); rw [hKn];clear hKn Kn;simp only [QV,reduceIte,reduceCtorEq,zF])
   (repeat refine Ws ?_);refine Wf ?_
   (((repeat refine Ws ?_);refine W_skip ?_); simp only [QV,reduceIte,reduceCtorEq,zF])
   have o1:=hok.h
   have o2:=hok.d
   have o3:=hok.c
   (repeat refine Ws ?_);refine We ?_;intro Kn hKn
   simp(maxSteps:=1000000)only[VL,VM,↓VG,reduceIte,reduceCtorEq,zA,zB,zC,zD,zE,zF,zG,zH,zI,zJ,PM_0]
   apply call_eq (f := 31) (fn:=Tryz.f31) (by kernel_rfl) (by rfl)
   ·exact check_v y _ (by omega) (by omega) (by omega)
   ((simp(maxSteps:=1000000)only[VL,VM,↓VG,reduceIte,reduceCtorEq,zA,zB,zC,zD,zE,zF,zG,zH,zI,zJ]); rw [hKn];clear hKn Kn;simp only [QV,reduceIte,reduceCtorEq,zF])
   (repeat refine Ws ?_);refine We ?_;intro Kn hKn
   by_cases h1:houseErr y = 0
   ·have k6:(houseErr y = 0) = True:=eq_true h1
    have hres:rsRead s = (y,0,0):=by
     rw [hres0]
     unfold rsEnd
     rw [if_neg,if_pos h1]
     rintro (h | h)
     ·cases h
     ·rw [hlast] at h
      exact h hl
    ((simp(maxSteps:=1000000)only[VL,VM,↓VG,reduceIte,reduceCtorEq,zA,zB,zC,zD,zE,zF,zG,zH,zI,zJ,k6]); rw [hKn];clear hKn Kn;simp only [QV,reduceIte,reduceCtorEq,zF])
    (repeat refine Ws ?_);refine Wf ?_
    (((repeat refine Ws ?_);refine W_skip ?_); simp only [QV,reduceIte,reduceCtorEq,zF])
    (repeat refine Ws ?_);refine We ?_;intro Kn hKn
    ((simp(maxSteps:=1000000)only[VL,VM,↓VG,reduceIte,reduceCtorEq,zA,zB,zC,zD,zE,zF,zG,zH,zI,zJ,PM_0,PM_s0]); rw [hKn];clear hKn Kn;simp only [QV,reduceIte,reduceCtorEq,zF])
    rw [hres]
    (repeat refine Ws ?_)
    refine W_ret ?_
    try simp only [thenQ,blockQ]
    refine own_retR rfl (by simp) rfl rfl rfl rfl
   ·have k6:(houseErr y = 0) = False:=eq_false h1
    have hres:rsRead s = (y0,0,houseErr y):=by
     rw [hres0]
     unfold rsEnd
     rw [if_neg,if_neg h1]
     rintro (h | h)
     ·cases h
     ·rw [hlast] at h
      exact h hl
    ((simp(maxSteps:=1000000)only[VL,VM,↓VG,reduceIte,reduceCtorEq,zA,zB,zC,zD,zE,zF,zG,zH,zI,zJ,k6]); rw [hKn];clear hKn Kn;simp only [QV,reduceIte,reduceCtorEq,zF])
    (repeat refine Ws ?_);refine Wt ?_
    (repeat refine Ws ?_);refine We ?_;intro Kn hKn
    ((simp(maxSteps:=1000000)only[VL,VM,↓VG,reduceIte,reduceCtorEq,zA,zB,zC,zD,zE,zF,zG,zH,zI,zJ,PM_0,PM_s0]); rw [hKn];clear hKn Kn;simp only [QV,reduceIte,reduceCtorEq,zF])
    rw [hres]
    refine W_nil3 ?_
    (repeat refine Ws ?_)
    refine W_ret ?_
    try simp only [thenQ,blockQ]
    refine own_retR rfl (by simp) rfl rfl rfl rfl
 have hlt2:i < rows.length:=by omega
 have k4:((i:Int) < ((rows.length - 1:Nat):Int)) = True:=eq_true (by omega)
 have hx:(strsV rs)[i]? = some [.str (tx rows[i])]:=strs_at (by rw [hrat i hlt,List.getElem?_eq_getElem hlt2])
 have hp:=hpart rows[i] (List.getElem_mem hlt2)
 have hst:=rsRun_step hlt2 hrun
 generalize rows[i] = row at hx hp hst
 (repeat refine Ws ?_);refine We ?_;intro Kn hKn
 ((simp(maxSteps:=1000000)only[VL,VM,↓VG,reduceIte,reduceCtorEq,zA,zB,zC,zD,zE,zF,zG,zH,zI,zJ,k4]); rw [hKn];clear hKn Kn;simp only [QV,reduceIte,reduceCtorEq,zF])
 (repeat refine Ws ?_);refine Wt ?_
 (((repeat refine Ws ?_);refine W_skip ?_); simp only [QV,reduceIte,reduceCtorEq,zF])
 (repeat refine Ws ?_);refine W_block ?_
 (repeat refine Ws ?_);refine We ?_;intro Kn hKn
 ((simp(maxSteps:=1000000)only[VL,VM,↓VG,reduceIte,reduceCtorEq,zA,zB,zC,zD,zE,zF,zG,zH,zI,zJ,hx]); rw [hKn];clear hKn Kn;simp only [QV,reduceIte,reduceCtorEq,zF])
 (repeat refine Ws ?_);refine We ?_;intro Kn hKn
 simp(maxSteps:=1000000)only[VL,VM,↓VG,reduceIte,reduceCtorEq,zA,zB,zC,zD,zE,zF,zG,zH,zI,zJ,lit32]
 apply call_eq (f := 38) (fn:=Tryz.f38) (by kernel_rfl) (by rfl)
 ·exact split_v (l:=row) (c:=32) (by omega) _
 ((simp(maxSteps:=1000000)only[VL,VM,↓VG,reduceIte,reduceCtorEq,zA,zB,zC,zD,zE,zF,zG,zH,zI,zJ]); rw [hKn];clear hKn Kn;simp only [QV,reduceIte,reduceCtorEq,zF])
 have hsn:=@rsStep_none i y b row
 have hss:=@rsStep_some i y row
 have hplen:=cutL_len 32 row
 have hppos:=cutL_pos 32 row
 have hppart:=cutL_part 32 row
 generalize cutL 32 row = ps at hsn hss hplen hppos hppart ⊢
 have hw0:ps.headD [] = ps[0]:=by rw [List.headD_eq_head?_getD,List.head?_eq_getElem?,List.getElem?_eq_getElem hppos]; rfl
 have hx0:=strs_at (List.getElem?_eq_getElem hppos)
 rw [hw0] at hsn hss
 generalize ps[0] = w at hsn hss hx0
 generalize hI0:(!b && (decide (w = wHouse) == decide (i = 0))) = is0 at hsn
 (repeat refine Ws ?_);refine We ?_;intro Kn hKn
 have hK:∀ e',Sub [(2,.ptr M.H.length 0),(5,strsW rows),(6,vi ((rows.length:Int) - 1)),(7,vb b),(8,vi i),(10,strsW ps),(11,vb is0),(29,strsW rs),(30,vi ((rows.length - 1:Nat):Int)),(31,vi i)] e'→Kn e' ⟨PMx M.H y L,M.lg++LG3 M.H.length⟩:=by
  intro e' hsub
  rw [hKn]
  simp only [QV,reduceIte,reduceCtorEq,zF]
  clear hKn Kn
  obtain ⟨h2,h5,h6,h7,h8,h10,h11,h29,h30,h31,-⟩:=hsub
  (repeat refine Ws ?_);refine We ?_;intro Kn hKn
  ((simp(maxSteps:=1000000)only[VL,VM,↓VG,reduceIte,reduceCtorEq,zA,zB,zC,zD,zE,zF,zG,zH,zI,zJ]); rw [hKn];clear hKn Kn;simp only [QV,reduceIte,reduceCtorEq,zF])
  (repeat refine Ws ?_)
  refine W_tok (t:=12) (k:=1) rfl ?_
  refine W_eqM (M':=⟨PMx M.H y (L++[.clm 0 1]),M.lg++LG3 M.H.length⟩) (by show (⟨_++_,_⟩:Mem) = _; rw [PM_app]) ?_
  have k5:(1≤ps.length) = True:=eq_true (by omega)
  have ht:(strsV ps).take ps.length = strsV ps:=by rw [strs_take,List.take_length]
  (repeat refine Ws ?_);refine We ?_;intro Kn hKn
  ((simp(maxSteps:=1000000)only[VL,VM,↓VG,reduceIte,reduceCtorEq,zA,zB,zC,zD,zE,zF,zG,zH,zI,zJ,h10,strs_len,k5,decide_true,ht,strs_drop,PM_len]); rw [hKn];clear hKn Kn;simp only [QV,reduceIte,reduceCtorEq,zF])
  have hwl:(ps.drop 1).length = ps.length - 1:=by rw [List.length_drop]
  have hwp:∀ q∈ps.drop 1,q.length≤row.length:=fun q hq=>hppart q (List.mem_of_mem_drop hq)
  generalize ps.drop 1 = ws at hsn hss hwl hwp ⊢
  ((repeat refine Ws ?_);refine W_block ?_; (repeat refine Ws ?_)); refine W_loopS (fun z:Nat×List Int×Bool=>[(2,.ptr M.H.length 0),(5,strsW rows),(6,vi ((rows.length:Int) - 1)),(7,vb b),(8,vi i),(10,strsW ps),(11,vb z.2.2),(12,.so (M.H.length + (4 + L.length)) 1 (z.2.1.map intP)),(29,strsW rs),(30,vi ((rows.length - 1:Nat):Int)),(31,vi i),(50,strsW ws),(51,vi ws.length),(52,vi z.1)]) (fun z=>⟨PMx M.H y (L++[.clm z.2.1.length 1]),M.lg++LG3 M.H.length⟩) (fun z=>ws.length - z.1) (fun z=>z.1≤ws.length∧WdI is0 ws z.1 z.2.1 z.2.2) (0,[],is0) ⟨Nat.zero_le _,⟨rfl,fun h=>⟨h,rfl⟩,fun h => .inl h⟩⟩ ?_ ?_ ?_
  ·refine ⟨?_,?_,?_,?_,?_,?_,?_,rfl,?_,?_,?_,rfl,?_,rfl,trivial⟩ <;> simp [get_cons,h2,h5,h6,h7,h8,h10,h11,h29,h30,h31]
  ·rfl
  rintro ⟨k,xs,is⟩ ⟨hk,hW⟩
  simp only at hk hW
  have kk : -9223372036854775808≤(k:Int) + 1∧(k:Int) + 1 < 9223372036854775808:=by omega
  have hxl:=hW.len
  (repeat refine Ws ?_);refine We ?_;intro Kn hKn
  rcases Nat.lt_or_ge k ws.length with hkl | hkg
  rotate_left
  ·obtain rfl:k = ws.length:=by omega
   have k6:((ws.length:Int) < (ws.length:Int)) = False:=eq_false (by omega)
   have hWt:=hW.t
   have hWf:=hW.f
   rw [List.take_length] at hWt hWf
   ((simp(maxSteps:=1000000)only[VL,VM,↓VG,reduceIte,reduceCtorEq,zA,zB,zC,zD,zE,zF,zG,zH,zI,zJ,k6]); rw [hKn];clear hKn Kn;simp only [QV,reduceIte,reduceCtorEq,zF])
   (repeat refine Ws ?_);refine Wf ?_
   (((repeat refine Ws ?_);refine W_exit ?_); simp only [QV,reduceIte,reduceCtorEq,zF])
   (repeat refine Ws ?_)
   refine W_blockN (R:=fun e' M'=>(∃ y' b' L',rsStep i (y,b) row = some (y',b')∧M' = ⟨PMx M.H y' L',M.lg++LG3 M.H.length⟩∧Sub [(2,.ptr M.H.length 0),(5,strsW rows),(6,vi ((rows.length:Int) - 1)),(7,vb b'),(8,vi i),(11,vb true),(29,strsW rs),(30,vi ((rows.length - 1:Nat):Int)),(31,vi i)] e') ∨
    (∃ y' L',rsStep i (y,b) row = none∧M' = ⟨PMx M.H y' L',M.lg++LG3 M.H.length⟩∧Sub [(2,.ptr M.H.length 0),(8,vi i),(11,vb false)] e')) ?_ ?_
   rotate_left
   ·rintro e' M' (⟨y',b',L',hs1,rfl,g2,g5,g6,g7,g8,g11,g29,g30,g31,-⟩ | ⟨y',L',hs1,rfl,g2,g8,g11,-⟩)
    ·rw [hs1] at hst
     simp only [QV,reduceIte,reduceCtorEq,zF]
     (repeat refine Ws ?_);refine We ?_;intro Kn hKn
     ((simp(maxSteps:=1000000)only[VL,VM,↓VG,reduceIte,reduceCtorEq,zA,zB,zC,zD,zE,zF,zG,zH,zI,zJ,g11]); rw [hKn];clear hKn Kn;simp only [QV,reduceIte,reduceCtorEq,zF])
     (repeat refine Ws ?_);refine Wf ?_
     (((repeat refine Ws ?_);refine W_skip ?_); simp only [QV,reduceIte,reduceCtorEq,zF])
     (repeat refine Ws ?_);refine We ?_;intro Kn hKn
     ((simp(maxSteps:=1000000)only[VL,VM,↓VG,reduceIte,reduceCtorEq,zA,zB,zC,zD,zE,zF,zG,zH,zI,zJ,g31,k3]); rw [hKn];clear hKn Kn;simp only [QV,reduceIte,reduceCtorEq,zF])
     refine LoopK.mk ⟨i + 1,y',b',L'⟩ (by simp only; omega) ⟨by simp only; omega,hst,rsStep_ok hs1 hok⟩ ⟨?_,?_,?_,?_,?_,?_,rfl,trivial⟩ rfl
     all_goals simp [get_cons,g2,g5,g6,g7,g29,g30]
    ·rw [hs1] at hst
     have hbad:=rsRun_bad (n:=rows.length - 1) (by omega) hst
     have hres:rsRead s = (y0,(i:Int) + 1,2):=by rw [hread,hbad]
     simp only [QV,reduceIte,reduceCtorEq,zF]
     (repeat refine Ws ?_);refine We ?_;intro Kn hKn
     ((simp(maxSteps:=1000000)only[VL,VM,↓VG,reduceIte,reduceCtorEq,zA,zB,zC,zD,zE,zF,zG,zH,zI,zJ,g11]); rw [hKn];clear hKn Kn;simp only [QV,reduceIte,reduceCtorEq,zF])
     (repeat refine Ws ?_);refine Wt ?_
     (repeat refine Ws ?_);refine We ?_;intro Kn hKn
     ((simp(maxSteps:=1000000)only[VL,VM,↓VG,reduceIte,reduceCtorEq,zA,zB,zC,zD,zE,zF,zG,zH,zI,zJ,g8,k3,g2,PM_0,PM_s0]); rw [hKn];clear hKn Kn;simp only [QV,reduceIte,reduceCtorEq,zF])
     rw [hres]
     refine W_nil3 ?_
     (repeat refine Ws ?_)
     refine W_ret ?_
     try simp only [thenQ,blockQ]
     refine own_retR rfl (by simp) rfl ?_ rfl rfl
     simp [get_cons,g2]
   cases is with
   | false =>
    have hs0:rsStep i (y,b) row = none:=hsn (hWf rfl)
    (repeat refine Ws ?_);refine We ?_;intro Kn hKn
    ((simp(maxSteps:=1000000)only[VL,VM,↓VG,reduceIte,reduceCtorEq,zA,zB,zC,zD,zE,zF,zG,zH,zI,zJ]); rw [hKn];clear hKn Kn;simp only [QV,reduceIte,reduceCtorEq,zF])
    (repeat refine Ws ?_);refine Wt ?_
    (repeat refine Ws ?_);refine W_skip ?_
    exact ⟨rfl,rfl,.inr ⟨y,(L++[.clm xs.length 1]),hs0,rfl,⟨rfl,rfl,rfl,trivial⟩⟩⟩
   | true =>
    obtain ⟨hi1,hnum⟩:=hWt rfl
    rw [hi1] at hI0
    simp only [Bool.and_eq_true,Bool.not_eq_true',beq_iff_eq] at hI0
    obtain ⟨rfl,hwi⟩:=hI0
    have hs0:=hss hnum
    (repeat refine Ws ?_);refine We ?_;intro Kn hKn
    ((simp(maxSteps:=1000000)only[VL,VM,↓VG,reduceIte,reduceCtorEq,zA,zB,zC,zD,zE,zF,zG,zH,zI,zJ]); rw [hKn];clear hKn Kn;simp only [QV,reduceIte,reduceCtorEq,zF])
    (repeat refine Ws ?_);refine Wf ?_
    have hgx:(strsV ps)[0]? = some [.str (tx w)]:=hx0
    by_cases hh:w = wHouse
    ·have kh:(w = wHouse) = True:=eq_true hh
     have hi0:i = 0:=by
      rw [decide_eq_true hh] at hwi
      exact of_decide_eq_true hwi.symm
     (repeat refine Ws ?_);refine We ?_;intro Kn hKn
     ((simp(maxSteps:=1000000)only[VL,VM,↓VG,reduceIte,reduceCtorEq,zA,zB,zC,zD,zE,zF,zG,zH,zI,zJ,hx0,litHouse,litEnd,v_eqS,kh]); rw [hKn];clear hKn Kn;simp only [QV,reduceIte,reduceCtorEq,zF])
     (repeat refine Ws ?_);refine Wt ?_
     by_cases hl3:xs.length = 3
     ·obtain ⟨a,c,g,rfl⟩:=threeL hl3
      (repeat refine Ws ?_);refine We ?_;intro Kn hKn
      ((simp(maxSteps:=1000000)only[VL,VM,↓VG,reduceIte,reduceCtorEq,zA,zB,zC,zD,zE,zF,zG,zH,zI,zJ]); rw [hKn];clear hKn Kn;simp only [QV,reduceIte,reduceCtorEq,zF])
      (repeat refine Ws ?_);refine We ?_;intro Kn hKn
      ((simp(maxSteps:=1000000)only[VL,VM,↓VG,reduceIte,reduceCtorEq,zA,zB,zC,zD,zE,zF,zG,zH,zI,zJ]); rw [hKn];clear hKn Kn;simp only [QV,reduceIte,reduceCtorEq,zF])
      (repeat refine Ws ?_);refine Wt ?_
      (repeat refine Ws ?_)
      refine W_drawE T_ok [] (by kernel_rfl) (by kernel_rfl) ?_
      intro Kn hKn
      generalize hi:mkPlan _ = infs
      cbv at hi
      subst hi
      simp(maxSteps:=1000000)only[VL,VM,↓VG,reduceIte,reduceCtorEq,zA,zB,zC,zD,zE,zF,zG,zH,zI,zJ,PM_at,PM_0,PM_s0]
      rw [hKn]
      exact ⟨rfl,rfl,.inl ⟨hoOf y [a,c,g],false,(L++[.clm 3 1]),hs0.trans (by unfold rsPut; rw [if_pos hi0,if_pos ⟨hh,rfl⟩]),rfl,⟨rfl,rfl,rfl,rfl,rfl,rfl,rfl,rfl,rfl,trivial⟩⟩⟩
     ·have kl:((xs.length:Int) = 3) = False:=eq_false (by omega)
      (repeat refine Ws ?_);refine We ?_;intro Kn hKn
      ((simp(maxSteps:=1000000)only[VL,VM,↓VG,reduceIte,reduceCtorEq,zA,zB,zC,zD,zE,zF,zG,zH,zI,zJ,kl]); rw [hKn];clear hKn Kn;simp only [QV,reduceIte,reduceCtorEq,zF])
      (repeat refine Ws ?_);refine We ?_;intro Kn hKn
      ((simp(maxSteps:=1000000)only[VL,VM,↓VG,reduceIte,reduceCtorEq,zA,zB,zC,zD,zE,zF,zG,zH,zI,zJ]); rw [hKn];clear hKn Kn;simp only [QV,reduceIte,reduceCtorEq,zF])
      (repeat refine Ws ?_);refine Wf ?_
      (repeat refine Ws ?_);refine W_skip ?_
      exact ⟨rfl,rfl,.inr ⟨y,(L++[.clm xs.length 1]),hs0.trans (by unfold rsPut; rw [if_pos hi0,if_neg (fun e=>hl3 e.2)]),rfl,⟨rfl,rfl,rfl,trivial⟩⟩⟩
    have kh:(w = wHouse) = False:=eq_false hh
    have hi0:¬ i = 0:=by
     rw [decide_eq_false hh] at hwi
     exact of_decide_eq_false hwi.symm
    (repeat refine Ws ?_);refine We ?_;intro Kn hKn
    ((simp(maxSteps:=1000000)only[VL,VM,↓VG,reduceIte,reduceCtorEq,zA,zB,zC,zD,zE,zF,zG,zH,zI,zJ,hx0,litHouse,litEnd,v_eqS,kh]); rw [hKn];clear hKn Kn;simp only [QV,reduceIte,reduceCtorEq,zF])
    (repeat refine Ws ?_);refine Wf ?_
    by_cases he:w = wEnd
    ·have ke:(w = wEnd) = True:=eq_true he
     rw [he,rsPut_end hi0] at hs0
     (repeat refine Ws ?_);refine We ?_;intro Kn hKn
     ((simp(maxSteps:=1000000)only[VL,VM,↓VG,reduceIte,reduceCtorEq,zA,zB,zC,zD,zE,zF,zG,zH,zI,zJ,hx0,litHouse,litEnd,v_eqS,ke]); rw [hKn];clear hKn Kn;simp only [QV,reduceIte,reduceCtorEq,zF])
     (repeat refine Ws ?_);refine Wt ?_
     by_cases hl1:xs.length = 1
     ·obtain ⟨a,rfl⟩:=oneL hl1
      by_cases ha:a = (y.counts.length:Int)
      ·have ka:(a = (y.counts.length:Int)) = True:=eq_true ha
       (repeat refine Ws ?_)
       refine W_drawE T_ok [] (by kernel_rfl) (by kernel_rfl) ?_
       intro Kn hKn
       generalize hi:mkPlan _ = infs
       cbv at hi
       subst hi
       simp(maxSteps:=1000000)only[VL,VM,↓VG,reduceIte,reduceCtorEq,zA,zB,zC,zD,zE,zF,zG,zH,zI,zJ,PM_at,PM_0,ka]
       rw [hKn]
       exact ⟨rfl,rfl,.inl ⟨y,true,(L++[.clm 1 1]),hs0.trans (if_pos ⟨rfl,ha⟩),rfl,⟨rfl,rfl,rfl,rfl,rfl,rfl,rfl,rfl,rfl,trivial⟩⟩⟩
      ·have ka:(a = (y.counts.length:Int)) = False:=eq_false ha
       (repeat refine Ws ?_)
       refine W_drawE T_ok [] (by kernel_rfl) (by kernel_rfl) ?_
       intro Kn hKn
       generalize hi:mkPlan _ = infs
       cbv at hi
       subst hi
       simp(maxSteps:=1000000)only[VL,VM,↓VG,reduceIte,reduceCtorEq,zA,zB,zC,zD,zE,zF,zG,zH,zI,zJ,PM_at,PM_0,ka]
       rw [hKn]
       exact ⟨rfl,rfl,.inr ⟨y,(L++[.clm 1 1]),hs0.trans (if_neg (fun e=>ha e.2)),rfl,⟨rfl,rfl,rfl,trivial⟩⟩⟩
     ·have kl:((xs.length:Int) = 1) = False:=eq_false (by omega)
      (repeat refine Ws ?_)
      refine W_drawE T_ok [] (by kernel_rfl) (by kernel_rfl) ?_
      intro Kn hKn
      generalize hi:mkPlan _ = infs
      cbv at hi
      subst hi
      simp(maxSteps:=1000000)only[VL,VM,↓VG,reduceIte,reduceCtorEq,zA,zB,zC,zD,zE,zF,zG,zH,zI,zJ,PM_at,PM_0,kl]
      rw [hKn]
      exact ⟨rfl,rfl,.inr ⟨y,(L++[.clm xs.length 1]),hs0.trans (if_neg (fun e=>hl1 e.1)),rfl,⟨rfl,rfl,rfl,trivial⟩⟩⟩
    have ke:(w = wEnd) = False:=eq_false he
    rw [rsPut_1 hi0] at hs0
    (repeat refine Ws ?_);refine We ?_;intro Kn hKn
    ((simp(maxSteps:=1000000)only[VL,VM,↓VG,reduceIte,reduceCtorEq,zA,zB,zC,zD,zE,zF,zG,zH,zI,zJ,hx0,litHouse,litEnd,v_eqS,ke]); rw [hKn];clear hKn Kn;simp only [QV,reduceIte,reduceCtorEq,zF])
    (repeat refine Ws ?_);refine Wf ?_
    have o1:=hok.h
    have o2:=hok.d
    have o3:=hok.c
    have tk:=take_v y w xs M.H (L++[.clm xs.length 1]) (M.lg++LG3 M.H.length) (by simp) (by simp) (by simp) ⟨by omega,by omega,by omega⟩ he
    (repeat refine Ws ?_);refine We ?_;intro Kn hKn
    simp(maxSteps:=1000000)only[VL,VM,↓VG,reduceIte,reduceCtorEq,zA,zB,zC,zD,zE,zF,zG,zH,zI,zJ,hx0,strip1]
    apply call_eq (f := 41) (fn:=Tryz.f41) (by kernel_rfl) (by rfl)
    ·exact tk
    simp(maxSteps:=1000000)only[VL,VM,↓VG,reduceIte,reduceCtorEq,zA,zB,zC,zD,zE,zF,zG,zH,zI,zJ]
    rw [hKn]
    cases hpt:rsPut 1 y w xs with
    | none=>exact ⟨rfl,rfl,.inr ⟨y,(L++[.clm xs.length 1]),hs0.trans hpt,rfl,⟨rfl,rfl,rfl,trivial⟩⟩⟩
    | some p =>
     obtain ⟨y',b'⟩:=p
     have hb':=rsPut_goes he hpt
     subst hb'
     exact ⟨rfl,rfl,.inl ⟨y',false,(L++[.clm xs.length 1]),hs0.trans hpt,rfl,⟨rfl,rfl,rfl,rfl,rfl,rfl,rfl,rfl,rfl,trivial⟩⟩⟩
  have k6:((k:Int) < (ws.length:Int)) = True:=eq_true (by omega)
  have hwx:=strs_at (List.getElem?_eq_getElem hkl)
  have hwlen:=hwp ws[k] (List.getElem_mem hkl)
  have hstep:=fun is'=>@WdI.step is0 ws k xs is is' hW hkl
  have hfit:=atoiV_fit ws[k]
  generalize ws[k] = wd at hwx hwlen hstep hfit
  ((simp(maxSteps:=1000000)only[VL,VM,↓VG,reduceIte,reduceCtorEq,zA,zB,zC,zD,zE,zF,zG,zH,zI,zJ,k6]); rw [hKn];clear hKn Kn;simp only [QV,reduceIte,reduceCtorEq,zF])
  (repeat refine Ws ?_);refine Wt ?_
  (((repeat refine Ws ?_);refine W_skip ?_); simp only [QV,reduceIte,reduceCtorEq,zF])
  (repeat refine Ws ?_);refine W_block ?_
  (repeat refine Ws ?_);refine We ?_;intro Kn hKn
  ((simp(maxSteps:=1000000)only[VL,VM,↓VG,reduceIte,reduceCtorEq,zA,zB,zC,zD,zE,zF,zG,zH,zI,zJ,hwx]); rw [hKn];clear hKn Kn;simp only [QV,reduceIte,reduceCtorEq,zF])
  (repeat refine Ws ?_);refine We ?_;intro Kn hKn
  simp(maxSteps:=1000000)only[VL,VM,↓VG,reduceIte,reduceCtorEq,zA,zB,zC,zD,zE,zF,zG,zH,zI,zJ]
  apply call_eq (f := 39) (fn:=Tryz.f39) (by kernel_rfl) (by rfl)
  ·exact atoi_v (s:=wd) (by omega) _
  ((simp(maxSteps:=1000000)only[VL,VM,↓VG,reduceIte,reduceCtorEq,zA,zB,zC,zD,zE,zF,zG,zH,zI,zJ]); rw [hKn];clear hKn Kn;simp only [QV,reduceIte,reduceCtorEq,zF])
  (repeat refine Ws ?_);refine We ?_;intro Kn hKn
  have hK2:∀ e' is',(is' = true↔is = true∧(atoiV wd).2 = true∧(unS wd).length≤6∧Lib.itoa (atoiV wd).1 = wd)→Sub [(2,.ptr M.H.length 0),(5,strsW rows),(6,vi ((rows.length:Int) - 1)),(7,vb b),(8,vi i),(10,strsW ps),(12,.so (M.H.length + (4 + L.length)) 1 (xs.map intP)),(15,vi (atoiV wd).1),(29,strsW rs),(30,vi ((rows.length - 1:Nat):Int)),(31,vi i),(50,strsW ws),(51,vi ws.length),(52,vi k),(11,vb is')] e'→Kn e' ⟨PMx M.H y (L++[.clm xs.length 1]),M.lg++LG3 M.H.length⟩:=by
   intro e' is' his hsub
   rw [hKn]
   simp only [QV,reduceIte,reduceCtorEq,zF]
   clear hKn Kn
   obtain ⟨g2,g5,g6,g7,g8,g10,g12,g15,g29,g30,g31,g50,g51,g52,g11,-⟩:=hsub
   have q1:((xs.length + 1) * 8≤140737488355328) = True:=eq_true (by omega)
   (repeat refine Ws ?_);refine We ?_;intro Kn hKn
   ((simp(maxSteps:=1000000)only[VL,VM,↓VG,reduceIte,reduceCtorEq,zA,zB,zC,zD,zE,zF,zG,zH,zI,zJ,g12,g15,PM_at,PM_sat,q1]); rw [hKn];clear hKn Kn;simp only [QV,reduceIte,reduceCtorEq,zF])
   (repeat refine Ws ?_);refine We ?_;intro Kn hKn
   ((simp(maxSteps:=1000000)only[VL,VM,↓VG,reduceIte,reduceCtorEq,zA,zB,zC,zD,zE,zF,zG,zH,zI,zJ,g52,kk]); rw [hKn];clear hKn Kn;simp only [QV,reduceIte,reduceCtorEq,zF])
   refine LoopK.mk (k + 1,xs++[(atoiV wd).1],is') (by simp only; omega) ⟨by simp only; omega,hstep is' his⟩ ?_ ?_
   ·refine ⟨?_,?_,?_,?_,?_,?_,?_,?_,?_,?_,?_,?_,?_,rfl,trivial⟩ <;> simp [get_cons,g2,g5,g6,g7,g8,g10,g29,g30,g31,g50,g51,g11]
   ·simp
  cases is with
  | false =>
   simp(maxSteps:=1000000)only[VL,VM,↓VG,reduceIte,reduceCtorEq,zA,zB,zC,zD,zE,zF,zG,zH,zI,zJ]
   exact hK2 _ false (by simp) ⟨rfl,rfl,rfl,rfl,rfl,rfl,rfl,rfl,rfl,rfl,rfl,rfl,rfl,rfl,rfl,trivial⟩
  | true =>
   cases ho:(atoiV wd).2 with
   | false =>
    simp(maxSteps:=1000000)only[VL,VM,↓VG,reduceIte,reduceCtorEq,zA,zB,zC,zD,zE,zF,zG,zH,zI,zJ,ho,v_eqNil]
    exact hK2 _ false (by simp [ho]) ⟨rfl,rfl,rfl,rfl,rfl,rfl,rfl,rfl,rfl,rfl,rfl,rfl,rfl,rfl,rfl,trivial⟩
   | true =>
    simp(maxSteps:=1000000)only[VL,VM,↓VG,reduceIte,reduceCtorEq,zA,zB,zC,zD,zE,zF,zG,zH,zI,zJ,ho,v_eqNil,lit45]
    apply call_eq (f := 40) (fn:=Tryz.f40) (by kernel_rfl) (by rfl)
    ·exact trim_v wd _
    by_cases h7:(unS wd).length≤6
    rotate_left
    ·have n2:(((unS wd).length:Int)≤6) = False:=eq_false (by omega)
     simp(maxSteps:=1000000)only[VL,VM,↓VG,reduceIte,reduceCtorEq,zA,zB,zC,zD,zE,zF,zG,zH,zI,zJ,tx_size,n2]
     exact hK2 _ false (by simp [h7]) ⟨rfl,rfl,rfl,rfl,rfl,rfl,rfl,rfl,rfl,rfl,rfl,rfl,rfl,rfl,rfl,trivial⟩
    have n2:(((unS wd).length:Int)≤6) = True:=eq_true (by omega)
    simp(maxSteps:=1000000)only[VL,VM,↓VG,reduceIte,reduceCtorEq,zA,zB,zC,zD,zE,zF,zG,zH,zI,zJ,tx_size,n2]
    apply call_eq (f := 34) (fn:=Tryz.f34) (by kernel_rfl) (by rfl)
    ·exact itoa_v hfit.1 hfit.2 _
    by_cases hit:Lib.itoa (atoiV wd).1 = wd
    ·have n3:(Lib.itoa (atoiV wd).1 = wd) = True:=eq_true hit
     simp(maxSteps:=1000000)only[VL,VM,↓VG,reduceIte,reduceCtorEq,zA,zB,zC,zD,zE,zF,zG,zH,zI,zJ,v_eqS,n3]
     exact hK2 _ true (by simp [ho,h7,hit]) ⟨rfl,rfl,rfl,rfl,rfl,rfl,rfl,rfl,rfl,rfl,rfl,rfl,rfl,rfl,rfl,trivial⟩
    ·have n3:(Lib.itoa (atoiV wd).1 = wd) = False:=eq_false hit
     simp(maxSteps:=1000000)only[VL,VM,↓VG,reduceIte,reduceCtorEq,zA,zB,zC,zD,zE,zF,zG,zH,zI,zJ,v_eqS,n3]
     exact hK2 _ false (by simp [hit]) ⟨rfl,rfl,rfl,rfl,rfl,rfl,rfl,rfl,rfl,rfl,rfl,rfl,rfl,rfl,rfl,trivial⟩
 cases b with
 | true =>
  simp(maxSteps:=1000000)only[VL,VM,↓VG,reduceIte,reduceCtorEq,zA,zB,zC,zD,zE,zF,zG,zH,zI,zJ]
  exact hK _ ⟨rfl,rfl,rfl,rfl,rfl,rfl,by rw [← hI0]; rfl,rfl,rfl,rfl,trivial⟩
 | false =>
  have e1:((i:Int) = 0) = (i = 0):=propext (by omega)
  simp(maxSteps:=1000000)only[VL,VM,↓VG,reduceIte,reduceCtorEq,zA,zB,zC,zD,zE,zF,zG,zH,zI,zJ,hx0,litHouse,v_eqS,e1,eql_bool]
  exact hK _ ⟨rfl,rfl,rfl,rfl,rfl,rfl,by rw [← hI0]; rfl,rfl,rfl,rfl,trivial⟩
end Go.Proofs.YtekhddlngbppkaaGreatDoor.Vm
